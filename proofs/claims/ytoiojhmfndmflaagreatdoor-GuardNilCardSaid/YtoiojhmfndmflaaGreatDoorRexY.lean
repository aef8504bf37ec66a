/-
  Rex, part Y: the invariant of a run in whatever order, and that an operation keeps it.
-/
import Derived.Test.YtoiojhmfndmflaaGreatDoorRexX
namespace Go.Proofs.YtoiojhmfndmflaaGreatDoor.Rex
open Go

def Sgm (Z : Nat → Rz) (a b : Nat) : Prop := ∀ i, a ≤ i → i < b → Z i ≠ .heavy

/-- A region's run in the order of the text, looked at. -/
structure Txt (P : Program) (ib : Nat) (cf : CallF) (rf : RndF) (rb : Bool) (ops : Array Oper) (T : Nat → DSt) (Z : Nat → Rz) (ord : Nat → Nat → Prop) : Prop where
  did : ∀ j o, ops[j]? = some o → Did P ib cf rf rb ops o (T j) (Z j) (T (j + 1))
  ck : ∀ i j oi oj, i < j → ops[i]? = some oi → ops[j]? = some oj → clash ops ⟨oi, Z i, T i, T (i + 1)⟩ ⟨oj, Z j, T j, T (j + 1)⟩ = true → ord i j
  rd : ∀ j o v bs q, ops[j]? = some o → Z j = .read v bs → (q = 0 ∨ ∃ i, q = i + 1 ∧ i < ops.size ∧ Z i = .heavy) →
    (∀ i, i < ops.size → Z i = .heavy → (ord i j → i < q) ∧ (ord j i → q ≤ i)) →
    ((q ≤ j ∧ Sgm Z q j) ∨
     ((∀ i b, i < ops.size → Z i = .store b → b ∈ bs → (i < q ↔ i < j)) ∧ readOp P (evA (see ops o (T j).a.tm)) o.op (cutH (T q).h bs) = some v))

structure Lk (ops : Array Oper) (T : Nat → DSt) (Z : Nat → Rz) (σ0 : Sg) (w0 : World) (cs0 : List Frame) (D : Nat → Prop) (σ : Sg) (q : Nat) (w : World) (ca : Act) (cs : List Frame) : Prop where
  q0 : q = 0 ∨ ∃ i, q = i + 1 ∧ i < ops.size ∧ Z i = .heavy
  hv : ∀ i, i < ops.size → Z i = .heavy → (D i ↔ i < q)
  bd : ∀ b x, (T q).h.at b = some x → b < (T q).n
  nm : ∀ b g r, σ b g = some r → b < (T q).n ∨ ∃ i x, q ≤ i ∧ i < ops.size ∧ Z i = .alloc x ∧ D i ∧ b = (T i).n
  inj : ∀ b g r b' g' r', σ b g = some r → σ b' g' = some r' → r.1 = r'.1 → b = b'
  lt : ∀ b g r, σ b g = some r → r.1 < w.heap.size
  base : ∀ b j x, b < (T q).n → q ≤ j → j ≤ ops.size → Sgm Z q j → (∀ i, i < ops.size → Z i = .store b → (D i ↔ i < j)) → (T j).h.at b = some x → ObR (cut σ (T j).n) b x.o w
  early : ∀ i y j x, q ≤ i → i < j → j ≤ ops.size → Z i = .alloc y → D i → Sgm Z i j → (∀ i', i' < ops.size → Z i' = .store (T i).n → (D i' ↔ i' < j)) → (T j).h.at (T i).n = some x →
    ObR (cut σ (T j).n) (T i).n x.o w
  tm : ∀ t j v, j ≤ ops.size → (∀ i o, ops[i]? = some o → o.dst = some t → (D i ↔ i < j)) → (T j).a.tm.at t = some v → VR (cut σ (T (max j q)).n) v (ca.tmps.getD t undef)
  sz : ca.tmps.size = (T 0).a.nt
  df : DfR (cut σ (T q).n) (T q).a.df ca.defers
  up : UpC (cut σ (T q).n) (T q).a.up cs0 cs
  us : (T q).a.up.isSome = (T 0).a.up.isSome
  fr : Fr (T 0).n σ0 w0 σ w

section
variable {P : Program} {ib : Nat} {cf : CallF} {rf : RndF} {rb : Bool} {ops : Array Oper} {T : Nat → DSt} {Z : Nat → Rz} {ord : Nat → Nat → Prop}

theorem oper_at {j : Nat} (h : j < ops.size) : ∃ o, ops[j]? = some o := ⟨ops[j], Array.getElem?_eq_getElem h⟩
theorem lt_ops {j : Nat} {o : Oper} (h : ops[j]? = some o) : j < ops.size := (Array.getElem?_eq_some_iff.1 h).1

theorem Txt.n_mono (X : Txt P ib cf rf rb ops T Z ord) {i j : Nat} (h : i ≤ j) (hj : j ≤ ops.size) : (T i).n ≤ (T j).n := by
  induction h with
  | refl => exact Nat.le_refl _
  | @step m hm ih =>
    obtain ⟨o, ho⟩ := oper_at (ops := ops) (j := m) (by omega)
    exact Nat.le_trans (ih (by omega)) (X.did m o ho).n_le

theorem Txt.n_alloc (X : Txt P ib cf rf rb ops T Z ord) {i : Nat} (hi : i < ops.size) {x : Blk} (hz : Z i = .alloc x) : (T (i + 1)).n = (T i).n + 1 := by
  obtain ⟨o, ho⟩ := oper_at hi
  have := X.did i o ho
  rw [hz] at this
  generalize T (i + 1) = s' at *
  cases this
  rfl

theorem Txt.nt (X : Txt P ib cf rf rb ops T Z ord) : ∀ {j : Nat}, j ≤ ops.size → (T j).a.nt = (T 0).a.nt
  | 0, _ => rfl
  | j + 1, h => by
    obtain ⟨o, ho⟩ := oper_at (ops := ops) (j := j) (by omega)
    rw [(X.did j o ho).nt, X.nt (by omega)]

theorem Txt.same (X : Txt P ib cf rf rb ops T Z ord) {a b : Nat} (h : a ≤ b) (hb : b ≤ ops.size) (hs : Sgm Z a b) : (T b).a.df = (T a).a.df ∧ (T b).a.up = (T a).a.up := by
  induction h with
  | refl => exact ⟨rfl, rfl⟩
  | @step m hm ih =>
    obtain ⟨o, ho⟩ := oper_at (ops := ops) (j := m) (by omega)
    obtain ⟨h1, h2⟩ := (X.did m o ho).same (hs m hm (by omega))
    obtain ⟨h3, h4⟩ := ih (by omega) (fun i hi hi' => hs i hi (by omega))
    exact ⟨h1.trans h3, h2.trans h4⟩

theorem Txt.tmc (X : Txt P ib cf rf rb ops T Z ord) {a b : Nat} (h : a ≤ b) (hb : b ≤ ops.size) {t : Tmp} (hs : ∀ i o, a ≤ i → i < b → ops[i]? = some o → o.dst ≠ some t) :
    (T b).a.tm.at t = (T a).a.tm.at t := by
  induction h with
  | refl => rfl
  | @step m hm ih =>
    obtain ⟨o, ho⟩ := oper_at (ops := ops) (j := m) (by omega)
    rw [(X.did m o ho).tm (hs m o hm (by omega) ho)]
    exact ih (by omega) (fun i o hi hi' => hs i o hi (by omega))

theorem Txt.hpc (X : Txt P ib cf rf rb ops T Z ord) {a b : Nat} (h : a ≤ b) (hb : b ≤ ops.size) {c : Nat} (hc : c < (T a).n) (hs : Sgm Z a b) (hst : ∀ i, a ≤ i → i < b → Z i ≠ .store c) :
    (T b).h.at c = (T a).h.at c := by
  induction h with
  | refl => rfl
  | @step m hm ih =>
    obtain ⟨o, ho⟩ := oper_at (ops := ops) (j := m) (by omega)
    have := X.n_mono hm (by omega)
    rw [(X.did m o ho).hp (hs m hm (by omega)) (by omega) (hst m hm (by omega))]
    exact ih (by omega) (fun i hi hi' => hs i hi (by omega)) (fun i hi hi' => hst i hi (by omega))

/-- Where a block that lies there in a stretch without effects comes from. -/
theorem Txt.from (X : Txt P ib cf rf rb ops T Z ord) {a b : Nat} (h : a ≤ b) (hb : b ≤ ops.size) (hs : Sgm Z a b) {c : Nat} : ∀ {x : Bk}, (T b).h.at c = some x →
    (∃ y, (T a).h.at c = some y) ∨ ∃ i y, a ≤ i ∧ i < b ∧ Z i = .alloc y ∧ c = (T i).n := by
  induction h with
  | refl => intro x e; exact .inl ⟨_, e⟩
  | @step m hm ih =>
    intro x e
    obtain ⟨o, ho⟩ := oper_at (ops := ops) (j := m) (by omega)
    rcases (X.did m o ho).from (hs m hm (by omega)) e with ⟨y, hy⟩ | ⟨h1, y, h2⟩
    · rcases ih (by omega) (fun i hi hi' => hs i hi (by omega)) hy with h3 | ⟨i, y', h4, h5, h6, h7⟩
      · exact .inl h3
      · exact .inr ⟨i, y', h4, by omega, h6, h7⟩
    · exact .inr ⟨m, y, hm, by omega, h2, h1⟩

/-- An operation that may come up. -/
structure Rdy (ord : Nat → Nat → Prop) (D : Nat → Prop) (j : Nat) : Prop where
  no : ¬ D j
  pre : ∀ i, ord i j → D i
  cl : ∀ i i', D i' → ord i i' → D i

/-- What clashes with it has been carried out exactly if it stands ahead in the text. -/
theorem Txt.pos (X : Txt P ib cf rf rb ops T Z ord) {D : Nat → Prop} {j : Nat} (R : Rdy ord D j) {o : Oper} (ho : ops[j]? = some o) {i : Nat} {oi : Oper} (hoi : ops[i]? = some oi)
    (h1 : i < j → clash ops ⟨oi, Z i, T i, T (i + 1)⟩ ⟨o, Z j, T j, T (j + 1)⟩ = true) (h2 : j < i → clash ops ⟨o, Z j, T j, T (j + 1)⟩ ⟨oi, Z i, T i, T (i + 1)⟩ = true) : D i ↔ i < j := by
  rcases Nat.lt_trichotomy i j with h | h | h
  · exact ⟨fun _ => h, fun _ => R.pre i (X.ck i j oi o h hoi ho (h1 h))⟩
  · subst h; exact ⟨fun e => (R.no e).elim, fun e => by omega⟩
  · exact ⟨fun e => (R.no (R.cl j i e (X.ck j i o oi h ho hoi (h2 h)))).elim, fun e => by omega⟩

theorem clash_mem {x y : Ent} (h : memClash x y = true) : clash ops x y = true := by simp [clash, h]
theorem clash_tmp {x y : Ent} (h : tmpClash ops x y = true) : clash ops x y = true := by simp [clash, h]

/-- The writers of what it looks at. -/
theorem Txt.looks (X : Txt P ib cf rf rb ops T Z ord) {D : Nat → Prop} {j : Nat} (R : Rdy ord D j) {o : Oper} (ho : ops[j]? = some o) {t : Tmp} (ht : t ∈ o.looksAt ops) :
    ∀ i oi, ops[i]? = some oi → oi.dst = some t → (D i ↔ i < j) := by
  intro i oi hoi hd
  have ha : (o.looksAt ops).any (Nat.beq t) = true := List.any_eq_true.2 ⟨t, ht, by simp⟩
  exact X.pos R ho hoi (fun _ => clash_tmp (by simp [tmpClash, hd, ha])) (fun _ => clash_tmp (by simp [tmpClash, hd, ha]))

/-- The writers of what it writes. -/
theorem Txt.writes (X : Txt P ib cf rf rb ops T Z ord) {D : Nat → Prop} {j : Nat} (R : Rdy ord D j) {o : Oper} (ho : ops[j]? = some o) {t : Tmp} (ht : o.dst = some t) :
    ∀ i oi, ops[i]? = some oi → oi.dst = some t → (D i ↔ i < j) := by
  intro i oi hoi hd
  exact X.pos R ho hoi (fun _ => clash_tmp (by simp [tmpClash, hd, ht, dstIs])) (fun _ => clash_tmp (by simp [tmpClash, hd, ht, dstIs]))

theorem rst_at {tm : Tr AV} : ∀ {ts : List Tmp} {t : Tmp} {v : AV}, (rst tm ts).at t = some v → t ∈ ts ∧ tm.at t = some v
  | [], t, v, h => by rw [rst, Tr.at_lf] at h; cases h
  | u :: ts, t, v, h => by
    unfold rst at h
    split at h
    · obtain ⟨h1, h2⟩ := rst_at h; exact ⟨.tail _ h1, h2⟩
    · rename_i u' hu
      rw [Tr.at_set] at h
      split at h
      · rename_i e; cases h; subst e; exact ⟨.head _, hu⟩
      · obtain ⟨h1, h2⟩ := rst_at h; exact ⟨.tail _ h1, h2⟩

variable {σ0 : Sg} {w0 : World} {cs0 : List Frame} {D : Nat → Prop} {σ : Sg} {q : Nat} {w : World} {ca : Act} {cs : List Frame}

/-- What it sees. -/
theorem Lk.sees (L : Lk ops T Z σ0 w0 cs0 D σ q w ca cs) (X : Txt P ib cf rf rb ops T Z ord) {j : Nat} (R : Rdy ord D j) {o : Oper} (ho : ops[j]? = some o) :
    TmR (cut σ (T (max j q)).n) (see ops o (T j).a.tm) (T j).a.nt ca.tmps := by
  have hj := lt_ops ho
  refine ⟨by rw [L.sz, X.nt (Nat.le_of_lt hj)], fun t v hv => ?_⟩
  obtain ⟨h1, h2⟩ := rst_at hv
  exact L.tm t j v (Nat.le_of_lt hj) (X.looks R ho h1) h2

/-- The temporaries, one operation later. -/
theorem Lk.tm_next (L : Lk ops T Z σ0 w0 cs0 D σ q w ca cs) (X : Txt P ib cf rf rb ops T Z ord) {j : Nat} (R : Rdy ord D j) {o : Oper} (ho : ops[j]? = some o) {σ' : Sg} (hle : Sg.le σ σ') {q' : Nat}
    (hq : q ≤ q') (hq' : q' ≤ ops.size) {tmps : Array Value} (hoth : ∀ t, o.dst ≠ some t → tmps.getD t undef = ca.tmps.getD t undef)
    (hval : ∀ t v, o.dst = some t → (T (j + 1)).a.tm.at t = some v → VR (cut σ' (T (max (j + 1) q')).n) v (tmps.getD t undef)) :
    ∀ t j' v, j' ≤ ops.size → (∀ i o, ops[i]? = some o → o.dst = some t → ((D i ∨ i = j) ↔ i < j')) → (T j').a.tm.at t = some v → VR (cut σ' (T (max j' q')).n) v (tmps.getD t undef) := by
  intro t j' v hj' hw hv
  by_cases ht : o.dst = some t
  · have hlt : j < j' := (hw j o ho ht).1 (.inr rfl)
    have hc : (T j').a.tm.at t = (T (j + 1)).a.tm.at t := by
      refine X.tmc hlt hj' fun i oi hi hi' hoi hd => ?_
      have h1 := (hw i oi hoi hd).2 hi'
      rcases h1 with h1 | h1
      · have := (X.writes R ho ht i oi hoi hd).1 h1; omega
      · omega
    rw [hc] at hv
    exact (hval t v ht hv).mono (cut_mono σ' (X.n_mono (by omega) (by omega)))
  · rw [hoth t ht]
    have := L.tm t j' v hj' (fun i oi hoi hd => by
      rw [← hw i oi hoi hd]
      refine ⟨.inl, fun h => h.resolve_right fun e => ?_⟩
      subst e
      rw [ho] at hoi; cases hoi
      exact ht hd) hv
    exact this.mono (Sg.le_trans (cut_of_le hle _) (cut_mono σ' (X.n_mono (by omega) (by omega))))

/-- A block, as the text has it, at a place that may come up. -/
theorem Lk.blk (L : Lk ops T Z σ0 w0 cs0 D σ q w ca cs) {j : Nat} (hqj : q ≤ j) (hj : j ≤ ops.size) (hs : Sgm Z q j) (X : Txt P ib cf rf rb ops T Z ord)
    {b : Nat} {x : Bk} (hst : ∀ i, i < ops.size → Z i = .store b → (D i ↔ i < j))
    (hal : ∀ i y, q ≤ i → i < j → Z i = .alloc y → b = (T i).n → D i) (hb : (T j).h.at b = some x) : ObR (cut σ (T j).n) b x.o w := by
  rcases X.from hqj hj hs hb with ⟨y, hy⟩ | ⟨i, y, h1, h2, h3, h4⟩
  · exact L.base b j x (L.bd b y hy) hqj hj hs hst hb
  · subst h4
    exact L.early i y j x h1 h2 hj h3 (hal i y h1 h2 h3 rfl) (fun i' hi' => hs i' (by omega)) hst hb
end
end Go.Proofs.YtoiojhmfndmflaaGreatDoor.Rex

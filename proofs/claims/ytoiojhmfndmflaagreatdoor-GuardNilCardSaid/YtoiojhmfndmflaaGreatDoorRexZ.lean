/-
  Rex, part Z: operations that may come up in whatever order: values, reads, new blocks.
-/
import Derived.Test.YtoiojhmfndmflaaGreatDoorRexY
namespace Go.Proofs.YtoiojhmfndmflaaGreatDoor.Rex
open Go

theorem put_get {o : Oper} {s : DSt} {v : AV} {a : Ac} (hp : s.a.put o.dst v = some a) {tmps : Array Value} (hsz : tmps.size = s.a.nt) (v' : Value) :
    (∀ t, o.dst ≠ some t → (putT tmps o.dst v').getD t undef = tmps.getD t undef) ∧ (∀ t u, o.dst = some t → a.tm.at t = some u → u = v ∧ (putT tmps o.dst v').getD t undef = v') := by
  obtain ⟨_, _, _, h1, h2⟩ := put_at hp
  refine ⟨fun t ht => ?_, fun t u ht hu => ?_⟩
  · cases hd : o.dst with
    | none => rfl
    | some d =>
      have hne : d ≠ t := fun e => ht (by rw [hd, e])
      simp only [putT, Array.getD_eq_getD_getElem?, Array.getElem?_setIfInBounds]
      rw [if_neg hne]
  · obtain ⟨h3, h4⟩ := h2 t ht
    rw [h3] at hu
    cases hu
    refine ⟨rfl, ?_⟩
    have : t < tmps.size := by rw [hsz]; exact h4
    simp [putT, ht, Array.getD, this]

theorem putT_size (tmps : Array Value) (d : Option Tmp) (v : Value) : (putT tmps d v).size = tmps.size := by cases d <;> simp [putT]

section
variable {P : Program} {ib : Nat} {cf : CallF} {rf : RndF} {rb : Bool} {ops : Array Oper} {T : Nat → DSt} {Z : Nat → Rz} {ord : Nat → Nat → Prop}
variable {σ0 : Sg} {w0 : World} {cs0 : List Frame} {D : Nat → Prop} {σ : Sg} {q : Nat} {w : World} {ca : Act} {cs : List Frame}

theorem Lk.q_le (L : Lk ops T Z σ0 w0 cs0 D σ q w ca cs) : q ≤ ops.size := by
  rcases L.q0 with h | ⟨i, h, h1, _⟩ <;> omega

theorem Lk.ev (L : Lk ops T Z σ0 w0 cs0 D σ q w ca cs) (X : Txt P ib cf rf rb ops T Z ord) {j : Nat} (R : Rdy ord D j) {o : Oper} (ho : ops[j]? = some o) :
    ER (cut σ (T (max j q)).n) (evA (see ops o (T j).a.tm)) ca.eval := by
  have h1 : AcR (cut σ (T (max j q)).n) ⟨see ops o (T j).a.tm, (T j).a.nt, [], none⟩ ⟨ca.tmps, []⟩ := ⟨L.sees X R ho, .nil⟩
  have h2 := act_eval h1
  intro x v hx
  have := h2 x v hx
  cases x <;> exact this

theorem Lk.gd (L : Lk ops T Z σ0 w0 cs0 D σ q w ca cs) (X : Txt P ib cf rf rb ops T Z ord) {j : Nat} (R : Rdy ord D j) {o : Oper} (ho : ops[j]? = some o) {b : Bool}
    (hg : gdA (see ops o (T j).a.tm) (guardOf ops.toList o) = some b) : Region.wanted o (yielded ops ca.tmps) = b := by
  have h1 : AcR (cut σ (T (max j q)).n) ⟨see ops o (T j).a.tm, (T j).a.nt, [], none⟩ ⟨ca.tmps, []⟩ := ⟨L.sees X R ho, .nil⟩
  exact gd_run h1 hg

theorem or_iff {D : Nat → Prop} {i j : Nat} (h : i ≠ j) : (D i ∨ i = j) ↔ D i := ⟨fun e => e.resolve_right h, .inl⟩

/-- A value: memory stands. -/
theorem Lk.value (L : Lk ops T Z σ0 w0 cs0 D σ q w ca cs) (X : Txt P ib cf rf rb ops T Z ord) {j : Nat} (R : Rdy ord D j) {o : Oper} (ho : ops[j]? = some o)
    (hz1 : Z j ≠ .heavy) (hz2 : ∀ b, Z j ≠ .store b) (hz3 : ∀ x, Z j ≠ .alloc x) {v : AV} (hp : (T j).a.put o.dst v = some (T (j + 1)).a) {v' : Value}
    (hv : VR (cut σ (T (max j q)).n) v v') : Lk ops T Z σ0 w0 cs0 (fun i => D i ∨ i = j) σ q w (ca.put o.dst v') cs := by
  have hj := lt_ops ho
  have hq := L.q_le
  obtain ⟨g1, g2⟩ := put_get hp (tmps := ca.tmps) (by rw [L.sz, X.nt (Nat.le_of_lt hj)]) v'
  have hne : ∀ {i : Nat} {z : Rz}, Z i = z → Z j ≠ z → i ≠ j := fun h1 h2 e => h2 (e ▸ h1)
  have hdf : (ca.put o.dst v').defers = ca.defers := by cases o.dst <;> rfl
  refine ⟨L.q0, fun i hi hz => ?_, L.bd, fun b g r e => ?_, L.inj, L.lt, fun b j' x h1 h2 h3 h4 h5 h6 => ?_, fun i y j' x h1 h2 h3 h4 h5 h6 h7 h8 => ?_, ?_, ?_, ?_, L.up, L.us, L.fr⟩
  · rw [or_iff (hne hz hz1)]; exact L.hv i hi hz
  · rcases L.nm b g r e with h | ⟨i, x, h1, h2, h3, h4, h5⟩
    · exact .inl h
    · exact .inr ⟨i, x, h1, h2, h3, .inl h4, h5⟩
  · exact L.base b j' x h1 h2 h3 h4 (fun i hi hz => by rw [← h5 i hi hz, or_iff (hne hz (hz2 b))]) h6
  · exact L.early i y j' x h1 h2 h3 h4 ((or_iff (hne h4 (hz3 y))).1 h5) h6 (fun i' hi' hz => by rw [← h7 i' hi' hz, or_iff (hne hz (hz2 _))]) h8
  · rw [put_tmps]
    refine L.tm_next X R ho (Sg.le_refl σ) (Nat.le_refl q) hq g1 fun t u ht hu => ?_
    obtain ⟨e1, e2⟩ := g2 t u ht hu
    rw [e1, e2]
    exact hv.mono (cut_mono σ (X.n_mono (by omega) (by omega)))
  · rw [put_tmps, putT_size]; exact L.sz
  · rw [hdf]; exact L.df

/-- The memory that a read looks at. -/
theorem cutH_at {h : Hp} : ∀ {bs : List Nat} {b : Nat} {x : Bk}, (cutH h bs).at b = some x → b ∈ bs ∧ h.at b = some x
  | [], b, x, e => by rw [cutH, Tr.at_lf] at e; cases e
  | c :: bs, b, x, e => by
    unfold cutH at e
    split at e
    · obtain ⟨h1, h2⟩ := cutH_at e; exact ⟨.tail _ h1, h2⟩
    · rename_i y hy
      rw [Tr.at_set] at e
      split at e
      · rename_i e'; cases e; subst e'; exact ⟨.head _, hy⟩
      · obtain ⟨h1, h2⟩ := cutH_at e; exact ⟨.tail _ h1, h2⟩

theorem Lk.sr (L : Lk ops T Z σ0 w0 cs0 D σ q w ca cs) {h : Hp} {n : Nat} (hb : ∀ b x, h.at b = some x → ObR (cut σ n) b x.o w) : SR (cut σ n) h n w where
  blk := hb
  inj := fun b g r b' g' r' e e' => L.inj b g r b' g' r' (cut_some e).2 (cut_some e').2
  lt := fun b g r e => L.lt b g r (cut_some e).2
  nm := fun _ hb g => cut_ge hb g

theorem mem_any {l : List Nat} {b : Nat} (h : b ∈ l) : l.any (Nat.beq b) = true := List.any_eq_true.2 ⟨b, h, by simp⟩

theorem Lk.read (L : Lk ops T Z σ0 w0 cs0 D σ q w ca cs) (X : Txt P ib cf rf rb ops T Z ord) {j : Nat} (R : Rdy ord D j) {o : Oper} (ho : ops[j]? = some o) {v : AV} {bs : List Nat} (hz : Z j = .read v bs)
    (hv : readOp P (evA (Rex.see ops o (T j).a.tm)) o.op (cutH (T j).h bs) = some v) :
    ∃ v', (execOp ca.eval o).run P w = .ok (.value v') w ∧ VR (cut σ (T (max j q)).n) v v' := by
  have hj := lt_ops ho
  have hq := L.q_le
  have her := L.ev X R ho
  have hstp : ∀ i b, i < ops.size → Z i = .store b → b ∈ bs → (D i ↔ i < j) := by
    intro i b hi hs hb
    obtain ⟨oi, hoi⟩ := oper_at hi
    exact X.pos R ho hoi (fun _ => clash_mem (by simp [memClash, hs, hz, hb])) (fun _ => clash_mem (by simp [memClash, hs, hz, hb]))
  rcases X.rd j o v bs q ho hz L.q0 (fun i hi hh => ⟨fun h => (L.hv i hi hh).1 (R.pre i h), fun h => by
    rcases Nat.lt_or_ge i q with h1 | h1
    · exact (R.no (R.cl j i ((L.hv i hi hh).2 h1) h)).elim
    · exact h1⟩) with ⟨h1, h2⟩ | ⟨h1, h2⟩
  · rw [Nat.max_eq_left h1] at her ⊢
    have hs : SR (cut σ (T j).n) (cutH (T j).h bs) (T j).n w := L.sr fun b x hb => by
      obtain ⟨hm, hb⟩ := cutH_at hb
      refine L.blk h1 (Nat.le_of_lt hj) h2 X (fun i hi hs => hstp i b hi hs hm) (fun i y h3 h4 h5 h6 => ?_) hb
      obtain ⟨oi, hoi⟩ := oper_at (ops := ops) (j := i) (by omega)
      refine (X.pos R ho hoi (fun _ => clash_mem ?_) (fun h => by omega)).2 h4
      simp [memClash, h5, hz, ← h6, hm]
    exact read_run hs her hv
  · have hs : SR (cut σ (T (max j q)).n) (cutH (T q).h bs) (T (max j q)).n w := L.sr fun b x hb => by
      obtain ⟨hm, hb⟩ := cutH_at hb
      have := L.base b q x (L.bd b x hb) (Nat.le_refl _) hq (fun i h3 h4 => by omega) (fun i hi hs => by rw [hstp i b hi hs hm, h1 i b hi hs hm]) hb
      exact this.cut_mono (X.n_mono (by omega) (by omega))
    exact read_run hs her h2

/-- A new block. -/
theorem Lk.alloc (L : Lk ops T Z σ0 w0 cs0 D σ q w ca cs) (X : Txt P ib cf rf rb ops T Z ord) {j : Nat} (R : Rdy ord D j) {o : Oper} (ho : ops[j]? = some o) {x : Blk} (hz : Z j = .alloc x)
    {f : Nat → AV} (hv : allocOp P (evA (Rex.see ops o (T j).a.tm)) o.op = some (x, f)) (hp : (T j).a.put o.dst (f (T j).n) = some (T (j + 1)).a) (hh : (T (j + 1)).h.at (T j).n = some ⟨0, x⟩) :
    ∃ σ' v' w', (execOp ca.eval o).run P w = .ok (.value v') w' ∧ Lk ops T Z σ0 w0 cs0 (fun i => D i ∨ i = j) σ' q w' (ca.put o.dst v') cs := by
  have hj := lt_ops ho
  have hq := L.q_le
  have hqj : q ≤ j := by
    rcases L.q0 with h | ⟨i, h, hi, hhv⟩
    · omega
    · rcases Nat.lt_or_ge j q with h1 | h1
      · exfalso
        have hji : j ≠ i := fun e => by subst e; rw [hz] at hhv; cases hhv
        obtain ⟨oi, hoi⟩ := oper_at hi
        have hDi := (L.hv i hi hhv).2 (by omega)
        have := (X.pos R ho hoi (fun h => by omega) (fun _ => clash_mem (by simp [memClash, hz, hhv]))).1 hDi
        omega
      · exact h1
  have hN1 := X.n_alloc hj hz
  have her := L.ev X R ho
  rw [Nat.max_eq_left hqj] at her
  obtain ⟨obj, len, N, v', hr, hfr⟩ := alloc_run (w := w) her hv
  obtain ⟨vv, hob⟩ := hfr (T j).n (fun g => cut_ge (Nat.le_refl _) g)
  have hun : ∀ g, σ (T j).n g = none := by
    intro g
    cases e : σ (T j).n g with
    | none => rfl
    | some r =>
      exfalso
      rcases L.nm _ g r e with h | ⟨i, y, h1, h2, h3, h4, h5⟩
      · have := X.n_mono hqj (Nat.le_of_lt hj); omega
      · have hij : i ≠ j := fun e => R.no (e ▸ h4)
        have hNi := X.n_alloc h2 h3
        rcases Nat.lt_or_ge i j with h | h
        · have := X.n_mono (i := i + 1) (j := j) h (by omega); omega
        · have := X.n_mono (i := j + 1) (j := i) (by omega) (by omega); omega
  have hle : Sg.le σ (σ.add (T j).n 0 (w.heap.size, len, N)) := Sg.le_add (hun 0)
  have hsub : Sg.le ((cut σ (T j).n).add (T j).n 0 (w.heap.size, len, N)) (cut (σ.add (T j).n 0 (w.heap.size, len, N)) (T (j + 1)).n) := by
    intro b g r e
    by_cases hb : b = (T j).n ∧ g = 0
    · obtain ⟨rfl, rfl⟩ := hb
      rw [Sg.add_same] at e
      rw [cut_lt (by omega), Sg.add_same]; exact e
    · rw [Sg.add_other _ _ hb] at e
      obtain ⟨h1, h2⟩ := cut_some e
      rw [cut_lt (by omega), Sg.add_other _ _ hb]; exact h2
  have hnames : ∀ b, b ≠ (T j).n → ∀ g, σ.add (T j).n 0 (w.heap.size, len, N) b g = σ b g := fun b hb g => Sg.add_other _ _ (fun e => hb e.1)
  have hkeep : ∀ b m o', b ≠ (T j).n → ObR (cut σ m) b o' w → ObR (cut (σ.add (T j).n 0 (w.heap.size, len, N)) m) b o' (newW w obj) := by
    intro b m o' hb h
    refine h.keep (cut_of_le hle m) (fun g => ?_) fun g r e => push_old _ _ (L.lt b g r (cut_some e).2)
    simp only [cut]
    rw [hnames b hb]
  have hne : ∀ {i : Nat} {z : Rz}, Z i = z → Rz.alloc x ≠ z → i ≠ j := fun h1 h2 e => h2 (by rw [← h1, e, hz])
  obtain ⟨g1, g2⟩ := put_get hp (tmps := ca.tmps) (by rw [L.sz, X.nt (Nat.le_of_lt hj)]) v'
  have hdf : (ca.put o.dst v').defers = ca.defers := by cases o.dst <;> rfl
  have hcq : Sg.le (cut σ (T q).n) (cut (σ.add (T j).n 0 (w.heap.size, len, N)) (T q).n) := cut_of_le hle _
  refine ⟨σ.add (T j).n 0 (w.heap.size, len, N), v', newW w obj, hr, L.q0, fun i hi hzi => ?_, L.bd, fun b g r e => ?_, fun b g r b' g' r' e e' hrr => ?_, fun b g r e => ?_,
    fun b j' y h1 h2 h3 h4 h5 h6 => ?_, fun i y j' y' h1 h2 h3 h4 h5 h6 h7 h8 => ?_, ?_, ?_, ?_, L.up.mono hcq, L.us, L.fr.trans (Fr.alloc hun (Nat.le_refl _) obj len N) ?_⟩
  · rw [or_iff (hne hzi (by simp))]; exact L.hv i hi hzi
  · by_cases hb : b = (T j).n
    · exact .inr ⟨j, x, hqj, hj, hz, .inr rfl, hb⟩
    · rw [hnames b hb] at e
      rcases L.nm b g r e with h | ⟨i, y, h1, h2, h3, h4, h5⟩
      · exact .inl h
      · exact .inr ⟨i, y, h1, h2, h3, .inl h4, h5⟩
  · by_cases h1 : b = (T j).n ∧ g = 0
    · by_cases h2 : b' = (T j).n ∧ g' = 0
      · rw [h1.1, h2.1]
      · obtain ⟨rfl, rfl⟩ := h1
        rw [Sg.add_same] at e; cases e
        rw [Sg.add_other _ _ h2] at e'
        have := L.lt _ _ _ e'
        simp only at hrr; omega
    · rw [Sg.add_other _ _ h1] at e
      by_cases h2 : b' = (T j).n ∧ g' = 0
      · obtain ⟨rfl, rfl⟩ := h2
        rw [Sg.add_same] at e'; cases e'
        have := L.lt _ _ _ e
        simp only at hrr; omega
      · rw [Sg.add_other _ _ h2] at e'
        exact L.inj _ _ _ _ _ _ e e' hrr
  · show _ < (w.heap.push obj).size
    rw [Array.size_push]
    by_cases h1 : b = (T j).n ∧ g = 0
    · obtain ⟨rfl, rfl⟩ := h1
      rw [Sg.add_same] at e; cases e; simp
    · rw [Sg.add_other _ _ h1] at e
      have := L.lt _ _ _ e
      omega
  · have hb : b ≠ (T j).n := by have := X.n_mono hqj (Nat.le_of_lt hj); omega
    exact hkeep b _ _ hb (L.base b j' y h1 h2 h3 h4 (fun i hi hs => by rw [← h5 i hi hs, or_iff (hne hs (by simp))]) h6)
  · by_cases hij : i = j
    · subst hij
      have hc : (T j').h.at (T i).n = (T (i + 1)).h.at (T i).n := by
        refine X.hpc (a := i + 1) h2 h3 (by omega) (fun i' h9 h10 => h6 i' (by omega) h10) fun i' h9 h10 h11 => ?_
        have hi' : i' < ops.size := by omega
        have hD := ((h7 i' hi' h11).2 h10).resolve_right (by omega)
        obtain ⟨oi, hoi⟩ := oper_at hi'
        have := (X.pos R ho hoi (fun h => by omega) (fun _ => clash_mem (by simp [memClash, hz, h11]))).1 hD
        omega
      rw [hc, hh] at h8
      cases h8
      have h9 : ObR (cut (σ.add (T i).n 0 (w.heap.size, len, N)) (T (i + 1)).n) (T i).n x (newW w obj) := hob.keep hsub (fun g => by
        rw [cut_lt (by omega)]
        by_cases hg : g = 0
        · subst hg; rw [Sg.add_same, Sg.add_same]
        · rw [Sg.add_other _ _ (fun e => hg e.2), Sg.add_other _ _ (fun e => hg e.2), hun, cut_ge (Nat.le_refl _)]) fun _ _ _ => rfl
      exact h9.cut_mono (X.n_mono (i := i + 1) h2 h3)
    · have hD := (or_iff hij).1 h5
      have hb : (T i).n ≠ (T j).n := by
        intro e
        have hNi := X.n_alloc (by omega) h4
        rcases Nat.lt_or_ge i j with h | h
        · have := X.n_mono (i := i + 1) (j := j) h (by omega); omega
        · have := X.n_mono (i := j + 1) (j := i) (by omega) (by omega); omega
      exact hkeep _ _ _ hb (L.early i y j' y' h1 h2 h3 h4 hD h6 (fun i' hi' hs => by rw [← h7 i' hi' hs, or_iff (hne hs (by simp))]) h8)
  · rw [put_tmps]
    refine L.tm_next X R ho hle (Nat.le_refl q) hq g1 fun t u ht hu => ?_
    obtain ⟨e1, e2⟩ := g2 t u ht hu
    rw [e1, e2]
    exact (vv.mono hsub).mono (cut_mono _ (X.n_mono (by omega) (by omega)))
  · rw [put_tmps, putT_size]; exact L.sz
  · rw [hdf]; exact L.df.mono hcq
  · exact X.n_mono (by omega) (by omega)
end
end Go.Proofs.YtoiojhmfndmflaaGreatDoor.Rex

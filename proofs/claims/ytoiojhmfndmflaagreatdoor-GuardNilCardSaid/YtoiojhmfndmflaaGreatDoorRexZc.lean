/-
  Rex, part Zc: every order of a drawn region comes to the same.
-/
import Derived.Test.YtoiojhmfndmflaaGreatDoorRexZb
namespace Go.Proofs.YtoiojhmfndmflaaGreatDoor.Rex
open Go

section
variable {P : Program} {ib : Nat} {cf : CallF} {rf : RndF} {ops : Array Oper} {T : Nat → DSt} {Z : Nat → Rz} {ord : Nat → Nat → Prop}
variable {σ0 : Sg} {w0 : World} {cs0 : List Frame} {D : Nat → Prop} {σ : Sg} {q : Nat} {w : World} {ca : Act} {cs : List Frame}

theorem Lk.step {fn : FuncId} {rnd : Option Nat} {x : Cx} (hib : IbOk P ib) (hcf : CallOk P cf) (hrf : RndOk P rf) (hxf : x.fn = fn) (hxr : RdR σ0 rnd x.rnd)
    (hs0 : ∀ b g r, σ0 b g = some r → b < (T 0).n) (hxk : x.kind = kdOf (T 0).a.up) (X : Txt P ib cf rf rnd.isSome ops T Z ord) (L : Lk ops T Z σ0 w0 cs0 D σ q w ca cs)
    {j : Nat} (R : Rdy ord D j) {o : Oper} (ho : ops[j]? = some o) (rest : List Nat) (k : List Item) :
    ∃ σ' q' w' ca' cs', Steps P (lone (mkF x ca (.inRegion ops (j :: rest) :: k) .run) cs w) (lone (mkF x ca' (.inRegion ops rest :: k) .run) cs' w') ∧
      Lk ops T Z σ0 w0 cs0 (fun i => D i ∨ i = j) σ' q' w' ca' cs' := by
  have hd := X.did j o ho
  have her := L.ev X R ho
  generalize hz : Z j = z at hd
  generalize hT : T (j + 1) = s' at hd
  cases hd with
  | skip hg hp =>
    have hst := st_op_skip (P := P) (x := x) (ca := ca) (k := k) (cs := cs) (w := w) (ops := ops) (i := j) (rest := rest) (by simp [ho, L.gd X R ho hg])
    rw [ho] at hst
    simp only [Option.bind_some] at hst
    exact ⟨σ, q, w, _, cs, .one hst, L.value X R ho (by simp [hz]) (by simp [hz]) (by simp [hz]) (by rw [hT]; exact hp) (.tup .nil)⟩
  | pure hg hv hp =>
    obtain ⟨v', hr, vv⟩ := pure_run her hv w
    exact ⟨σ, q, w, _, cs, .one (st_value ho (L.gd X R ho hg) (.inr fun c e => by rw [e] at hv; cases hv) (.inl hr)),
      L.value X R ho (by simp [hz]) (by simp [hz]) (by simp [hz]) (by rw [hT]; exact hp) vv⟩
  | read hg hv hp =>
    obtain ⟨v', hr, vv⟩ := L.read X R ho hz hv
    exact ⟨σ, q, w, _, cs, .one (st_value ho (L.gd X R ho hg) (.inr fun c e => by rw [e] at hv; cases hv) (.inl hr)),
      L.value X R ho (by simp [hz]) (by simp [hz]) (by simp [hz]) (by rw [hT]; exact hp) vv⟩
  | alloc hg hv hp =>
    obtain ⟨σ', v', w', hr, L'⟩ := L.alloc X R ho hz hv (by rw [hT]; exact hp) (by rw [hT]; show (Tr.set _ _ _).at _ = _; rw [Tr.at_set, if_pos rfl])
    exact ⟨σ', q, w', _, cs, .one (st_value ho (L.gd X R ho hg) (.inr fun c e => by rw [e] at hv; cases hv) (.inl hr)), L'⟩
  | store hg hv hb hp =>
    obtain ⟨w', hr, L'⟩ := L.store X R ho hz hv hb (by rw [hT]; exact hp) (by rw [hT]; show (Tr.set _ _ _).at _ = _; rw [Tr.at_set, if_pos rfl]) (by rw [hT])
    exact ⟨σ, q, w', _, cs, .one (st_value ho (L.gd X R ho hg) (.inr fun c e => by rw [e] at hv; cases hv) hr), L'⟩
  | heavy hg hv hn ht =>
    obtain ⟨σ', w', ca', cs', hst, L'⟩ := L.heavy hib hcf hrf X R ho hz hxf hxr hs0 hxk hg hv hn ht hT rest k
    exact ⟨σ', _, w', ca', cs', hst, L'⟩

/-! ## Sequences -/

def cntU (listed : Array Bool) : Nat → Nat
  | 0 => 0
  | n + 1 => cntU listed n + (if listed.getD n false = true then 0 else 1)

theorem cntU_le (listed : Array Bool) : ∀ n, cntU listed n ≤ n
  | 0 => Nat.le_refl _
  | n + 1 => by have := cntU_le listed n; unfold cntU; split <;> omega
theorem cntU_zero {listed : Array Bool} : ∀ {n : Nat}, cntU listed n = 0 → ∀ i, i < n → listed.getD i false = true
  | n + 1, h, i, hi => by
    unfold cntU at h
    split at h
    · rename_i hn
      rcases Nat.lt_or_ge i n with h1 | h1
      · exact cntU_zero (by omega) i h1
      · rw [show i = n from by omega]; exact hn
    · omega
theorem set_getD {listed : Array Bool} {i : Nat} (hi : i < listed.size) (j : Nat) : (listed.setIfInBounds i true).getD j false = true ↔ (listed.getD j false = true ∨ j = i) := by
  by_cases h : i = j
  · subst h; simp [hi]
  · rw [getD_set_ne false h]
    exact ⟨.inl, fun e => e.resolve_right (Ne.symm h)⟩
theorem cntU_set_ge {listed : Array Bool} {i : Nat} (hi : i < listed.size) : ∀ n, n ≤ i → cntU (listed.setIfInBounds i true) n = cntU listed n
  | 0, _ => rfl
  | n + 1, h => by
    unfold cntU
    rw [cntU_set_ge hi n (by omega), getD_set_ne false (by omega)]
theorem cntU_set {listed : Array Bool} {i : Nat} (hi : i < listed.size) (hu : ¬ listed.getD i false = true) : ∀ n, i < n → cntU (listed.setIfInBounds i true) n + 1 = cntU listed n
  | n + 1, h => by
    unfold cntU
    rcases Nat.lt_or_ge i n with h1 | h1
    · rw [getD_set_ne false (by omega)]
      have := cntU_set hi hu n h1
      omega
    · have : i = n := by omega
      subst this
      rw [cntU_set_ge hi i (Nat.le_refl _), if_pos ((set_getD hi i).2 (.inr rfl)), if_neg hu]

/-- What has been carried out is closed under what must come ahead. -/
def Clo (ops : Array Oper) (listed : Array Bool) : Prop := ∀ j o, ops[j]? = some o → listed.getD j false = true → ∀ e ∈ o.after, Region.binds .any e = true → listed.getD e.on false = true

/-- The looks' order is what the edges bring about. -/
structure OrdOk (ops : Array Oper) (ord : Nat → Nat → Prop) : Prop where
  lt : ∀ j o, ops[j]? = some o → ∀ e ∈ o.after, Region.binds .any e = true → e.on < j
  by_ : ∀ i j, ord i j → ∃ o, ops[j]? = some o ∧ ∃ e ∈ o.after, Region.binds .any e = true ∧ (i = e.on ∨ ord i e.on)

theorem OrdOk.cl (O : OrdOk ops ord) {listed : Array Bool} (C : Clo ops listed) : ∀ (j : Nat) (i : Nat), ord i j → (∀ o, ops[j]? = some o → ∀ e ∈ o.after, Region.binds .any e = true → listed.getD e.on false = true) → listed.getD i false = true := by
  intro j
  induction j using Nat.strongRecOn with
  | ind j ih =>
    intro i h hj
    obtain ⟨o, ho, e, he, hb, h1⟩ := O.by_ i j h
    have hd := hj o ho e he hb
    rcases h1 with rfl | h1
    · exact hd
    · exact ih e.on (O.lt j o ho e he hb) i h1 fun o' ho' e' he' hb' => C e.on o' ho' hd e' he' hb'

theorem OrdOk.rdy (O : OrdOk ops ord) {listed : Array Bool} (hsz : listed.size = ops.size) (C : Clo ops listed) {j : Nat} (hj : j ∈ Region.ready .any ops listed) :
    j < ops.size ∧ Rdy ord (fun i => listed.getD i false = true) j ∧ Clo ops (listed.setIfInBounds j true) := by
  rw [mem_ready] at hj
  obtain ⟨h0, o, ho, hall⟩ := hj
  have hlt := lt_ops ho
  refine ⟨hlt, ⟨fun h => ?_, fun i h => O.cl C j i h fun o' ho' e he hb => ?_, fun i i' h h' => O.cl C i' i h' fun o' ho' e he hb => C i' o' ho' h e he hb⟩, fun i o' ho' h e he hb => ?_⟩
  · have h1 : j < listed.size := by omega
    simp only [Array.getD_eq_getD_getElem?, Array.getElem?_eq_getElem h1, Option.getD_some] at h0 h
    rw [h0] at h; cases h
  · rw [ho] at ho'; cases ho'; exact hall e he hb
  · rw [set_getD (by omega)] at h ⊢
    rcases h with h | rfl
    · exact .inl (C i o' ho' h e he hb)
    · rw [ho] at ho'; cases ho'; exact .inl (hall e he hb)

theorem OrdOk.all (O : OrdOk ops ord) {listed : Array Bool} (hsz : listed.size = ops.size) (hr : Region.ready .any ops listed = []) : ∀ j, j < ops.size → listed.getD j false = true := by
  intro j
  induction j using Nat.strongRecOn with
  | ind j ih =>
    intro hj
    cases hd : listed.getD j false with
    | true => rfl
    | false =>
      exfalso
      obtain ⟨o, ho⟩ := oper_at hj
      have : j ∈ Region.ready .any ops listed := by
        rw [mem_ready]
        refine ⟨?_, o, ho, fun e he hb => ih e.on (O.lt j o ho e he hb) (by have := O.lt j o ho e he hb; omega)⟩
        have h1 : j < listed.size := by omega
        simp only [Array.getD_eq_getD_getElem?, Array.getElem?_eq_getElem h1, Option.getD_some] at hd ⊢
        exact hd
      rw [hr] at this; cases this

theorem Lk.congr {D' : Nat → Prop} (h : ∀ i, D i ↔ D' i) (L : Lk ops T Z σ0 w0 cs0 D σ q w ca cs) : Lk ops T Z σ0 w0 cs0 D' σ q w ca cs := by
  have : D = D' := funext fun i => propext (h i)
  rw [← this]; exact L

theorem lin_ok {fn : FuncId} {rnd : Option Nat} {x : Cx} (hib : IbOk P ib) (hcf : CallOk P cf) (hrf : RndOk P rf) (hxf : x.fn = fn) (hxr : RdR σ0 rnd x.rnd)
    (hs0 : ∀ b g r, σ0 b g = some r → b < (T 0).n) (hxk : x.kind = kdOf (T 0).a.up) (X : Txt P ib cf rf rnd.isSome ops T Z ord) (O : OrdOk ops ord) (k : List Item) :
    ∀ (fuel t : Nat) (listed : Array Bool) (σ : Sg) (q : Nat) (w : World) (ca : Act) (cs : List Frame), listed.size = ops.size → cntU listed ops.size ≤ fuel → Clo ops listed →
      Lk ops T Z σ0 w0 cs0 (fun i => listed.getD i false = true) σ q w ca cs →
      ∃ σ' q' w' ca' cs', Steps P (lone (mkF x ca (.inRegion ops (Region.linearise.go .any ops fuel t listed []) :: k) .run) cs w) (lone (mkF x ca' (.inRegion ops [] :: k) .run) cs' w') ∧
        ∃ D', (∀ i, i < ops.size → D' i) ∧ Lk ops T Z σ0 w0 cs0 D' σ' q' w' ca' cs'
  | 0, t, listed, σ, q, w, ca, cs, hsz, hc, C, L => by
    refine ⟨σ, q, w, ca, cs, ?_, _, fun i hi => cntU_zero (n := ops.size) (by omega) i hi, L⟩
    simp only [Region.linearise.go, List.reverse_nil]
    exact Steps.refl _ _
  | fuel + 1, t, listed, σ, q, w, ca, cs, hsz, hc, C, L => by
    simp only [Region.linearise.go]
    change ∃ σ' q' w' ca' cs', Steps P (lone (mkF x ca (.inRegion ops (match (Region.ready .any ops listed)[t % (Region.ready .any ops listed).length]? with
      | some i => Region.linearise.go .any ops fuel (t / (Region.ready .any ops listed).length) (listed.setIfInBounds i true) [i]
      | none => [].reverse) :: k) .run) cs w) _ ∧ _
    cases hi : (Region.ready .any ops listed)[t % (Region.ready .any ops listed).length]? with
    | none =>
      have hnil : Region.ready .any ops listed = [] := by
        cases hr : Region.ready .any ops listed with
        | nil => rfl
        | cons y ys =>
          rw [hr] at hi
          have hlt : t % (y :: ys).length < (y :: ys).length := Nat.mod_lt _ (by simp)
          rw [List.getElem?_eq_getElem hlt] at hi
          cases hi
      exact ⟨σ, q, w, ca, cs, Steps.refl _ _, _, O.all hsz hnil, L⟩
    | some i =>
      simp only []
      rw [linearise_go_acc, List.reverse_singleton, List.singleton_append]
      obtain ⟨hlt, R, C'⟩ := O.rdy hsz C (List.mem_of_getElem? hi)
      obtain ⟨o, ho⟩ := oper_at hlt
      obtain ⟨σ', q', w', ca', cs', hst, L'⟩ := L.step hib hcf hrf hxf hxr hs0 hxk X R ho (Region.linearise.go .any ops fuel (t / (Region.ready .any ops listed).length) (listed.setIfInBounds i true) []) k
      have hcnt := cntU_set (listed := listed) (i := i) (by omega) R.no ops.size hlt
      obtain ⟨σ2, q2, w2, ca2, cs2, hst2, D2, h2, L2⟩ := lin_ok hib hcf hrf hxf hxr hs0 hxk X O k fuel (t / (Region.ready .any ops listed).length) (listed.setIfInBounds i true) σ' q' w' ca' cs' (by simpa using hsz) (by omega) C'
        (L'.congr fun i' => (set_getD (by omega) i').symm)
      exact ⟨σ2, q2, w2, ca2, cs2, hst.trans hst2, D2, h2, L2⟩
end
end Go.Proofs.YtoiojhmfndmflaaGreatDoor.Rex

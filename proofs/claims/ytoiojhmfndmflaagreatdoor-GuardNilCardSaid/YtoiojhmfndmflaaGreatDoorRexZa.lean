/-
  Rex, part Za: stores that may come up in whatever order.
-/
import Derived.Test.YtoiojhmfndmflaaGreatDoorRexZ
namespace Go.Proofs.YtoiojhmfndmflaaGreatDoor.Rex
open Go

theorem storeOp_run {P : Program} {σ : Sg} {n : Nat} {w : World} {ev : Ev} {ρ : Operand → Value} (hr : ER σ ev ρ) {o : Oper} {h : Hp} {b : Nat} {x y : Bk} (hu : storeOp P ev o.op h = some (b, x))
    (hy : h.at b = some y) (hs : SR σ (Tr.set .lf b y) n w) :
    ∃ w', WentBy ((execOp ρ o).run P w) undef w' ∧ SR σ (Tr.set (Tr.set .lf b y) b x) n w' ∧ Fr n σ w σ w' ∧ ∃ g r, σ b g = some r ∧ Loc r.1 w w' := by
  obtain ⟨dst, op, typ, pos, after, guard⟩ := o
  have liftu : ∀ {s : Sem Unit}, (∃ w', s.run P w = .ok () w' ∧ SR σ (Tr.set (Tr.set .lf b y) b x) n w' ∧ Fr n σ w σ w' ∧ ∃ g r, σ b g = some r ∧ Loc r.1 w w') →
      ∃ w', WentBy ((do s; pure Next.skip : Sem Next).run P w) undef w' ∧ SR σ (Tr.set (Tr.set .lf b y) b x) n w' ∧ Fr n σ w σ w' ∧ ∃ g r, σ b g = some r ∧ Loc r.1 w w' := by
    rintro s ⟨w', e, h1⟩
    exact ⟨w', .inr ⟨by simp [e], rfl⟩, h1⟩
  dsimp only at hu
  unfold storeOp at hu
  split at hu
  · rename_i t p v
    split at hu
    · rename_i b' g off ext vv hp hv
      split at hu
      · cases hu
      · rename_i y' hy'
        have hb : b' = b := by
          unfold storeA at hu
          split at hu
          · rename_i i b0 g0 off0 ext0 hi he
            split at hu
            · rw [Bool.cond_eq_ite] at hu
              split at hu
              · cases hu; cases he; rfl
              · cases hu
            · cases hu
          · cases hu
        subst hb
        rw [hy] at hy'
        cases hy'
        exact liftu (store_run2 (P := P) hs hu (hr _ _ hp) (hr _ _ hv))
    · cases hu
  · rename_i t m k v
    split at hu
    · rename_i b' kk vv hm hk hv
      split at hu
      · cases hu
      · rename_i y' hy'
        split at hu
        · rename_i v0 b'' x' hup
          rw [Bool.cond_eq_ite] at hu
          split at hu
          · rename_i hbb
            simp only [nat_beq, decide_eq_true_eq] at hbb
            cases hu
            subst hbb
            rw [hy] at hy'
            cases hy'
            obtain ⟨w', h1, h2, h3, h4⟩ := upd_run2 (P := P) hs hup (hr _ _ hm) (hr _ _ hk) (hr _ _ hv)
            exact liftu ⟨w', h1, h2, h3, h4 _ _ _ rfl⟩
          · cases hu
        · cases hu
    · cases hu
  · cases hu

section
variable {P : Program} {ib : Nat} {cf : CallF} {rf : RndF} {rb : Bool} {ops : Array Oper} {T : Nat → DSt} {Z : Nat → Rz} {ord : Nat → Nat → Prop}
variable {σ0 : Sg} {w0 : World} {cs0 : List Frame} {D : Nat → Prop} {σ : Sg} {q : Nat} {w : World} {ca : Act} {cs : List Frame}

theorem Did.n_eq {o : Oper} {s s' : DSt} {z : Rz} (h : Did P ib cf rf rb ops o s z s') (h1 : z ≠ .heavy) (h2 : ∀ x, z ≠ .alloc x) : s'.n = s.n := by
  cases h with
  | alloc => exact (h2 _ rfl).elim
  | heavy => exact (h1 rfl).elim
  | _ => rfl

theorem Txt.name (X : Txt P ib cf rf rb ops T Z ord) {a b : Nat} (h : a ≤ b) (hb : b ≤ ops.size) (hs : Sgm Z a b) {c : Nat} (hc : (T a).n ≤ c) : c < (T b).n → ∃ i y, a ≤ i ∧ i < b ∧ Z i = .alloc y ∧ c = (T i).n := by
  induction h with
  | refl => intro h; omega
  | @step m hm ih =>
    intro e
    have e : c < (T (m + 1)).n := e
    obtain ⟨o, ho⟩ := oper_at (ops := ops) (j := m) (by omega)
    rcases Nat.lt_or_ge c (T m).n with h1 | h1
    · obtain ⟨i, y, h2, h3, h4⟩ := ih (by omega) (fun i hi hi' => hs i hi (by omega)) h1
      exact ⟨i, y, h2, by omega, h4⟩
    · by_cases hx : ∃ x, Z m = .alloc x
      · obtain ⟨x, hx⟩ := hx
        have := X.n_alloc (by omega) hx
        exact ⟨m, x, hm, by omega, hx, by omega⟩
      · have := (X.did m o ho).n_eq (hs m hm (by omega)) (fun x e => hx ⟨x, e⟩)
        omega

/-- Where the stretch without effects begins. -/
theorem seg_of (ops : Array Oper) (Z : Nat → Rz) : ∀ j, j ≤ ops.size → ∃ s, s ≤ j ∧ Sgm Z s j ∧ (s = 0 ∨ ∃ h, s = h + 1 ∧ h < ops.size ∧ Z h = .heavy)
  | 0, _ => ⟨0, Nat.le_refl _, fun i h1 h2 => by omega, .inl rfl⟩
  | j + 1, hj => by
    by_cases hz : Z j = .heavy
    · exact ⟨j + 1, Nat.le_refl _, fun i h1 h2 => by omega, .inr ⟨j, rfl, by omega, hz⟩⟩
    · obtain ⟨s, h1, h2, h3⟩ := seg_of ops Z j (by omega)
      refine ⟨s, by omega, fun i h4 h5 => ?_, h3⟩
      by_cases hij : i = j
      · rw [hij]; exact hz
      · exact h2 i h4 (by omega)

theorem Lk.store (L : Lk ops T Z σ0 w0 cs0 D σ q w ca cs) (X : Txt P ib cf rf rb ops T Z ord) {j : Nat} (R : Rdy ord D j) {o : Oper} (ho : ops[j]? = some o) {b : Nat} {x : Bk} (hz : Z j = .store b)
    (hv : storeOp P (evA (Rex.see ops o (T j).a.tm)) o.op (T j).h = some (b, x)) (hb : b < (T j).n) (hp : (T j).a.put o.dst (.tup []) = some (T (j + 1)).a) (hh : (T (j + 1)).h.at b = some x)
    (hn : (T (j + 1)).n = (T j).n) :
    ∃ w', WentBy ((execOp ca.eval o).run P w) undef w' ∧ Lk ops T Z σ0 w0 cs0 (fun i => D i ∨ i = j) σ q w' (ca.put o.dst undef) cs := by
  have hj := lt_ops ho
  have hq := L.q_le
  obtain ⟨y, hy⟩ := storeOp_at hv
  obtain ⟨s, hs1, hs2, hs3⟩ := seg_of ops Z j (Nat.le_of_lt hj)
  have hstp : ∀ i, i < ops.size → Z i = .store b → (D i ↔ i < j) := by
    intro i hi hsi
    obtain ⟨oi, hoi⟩ := oper_at hi
    exact X.pos R ho hoi (fun _ => clash_mem (by simp [memClash, hsi, hz])) (fun _ => clash_mem (by simp [memClash, hsi, hz]))
  have hhv : ∀ i, i < ops.size → Z i = .heavy → j < i → ¬ D i := by
    intro i hi hhi hji hD
    obtain ⟨oi, hoi⟩ := oper_at hi
    have := (X.pos R ho hoi (fun h => by omega) (fun _ => clash_mem (by simp [memClash, hhi, hz]))).1 hD
    omega
  have hqs : q ≤ s := by
    rcases L.q0 with h | ⟨i, h, hi, hhi⟩
    · omega
    · have hD := (L.hv i hi hhi).2 (by omega)
      rcases Nat.lt_trichotomy i j with h1 | h1 | h1
      · rcases Nat.lt_or_ge i s with h2 | h2
        · omega
        · exact (hs2 i h2 h1 hhi).elim
      · subst h1; rw [hz] at hhi; cases hhi
      · exact (hhv i hi hhi h1 hD).elim
  have hqj : q ≤ j := by omega
  have hob : ObR (cut σ (T j).n) b y.o w := by
    rcases Nat.lt_or_ge b (T s).n with h1 | h1
    · have hsq : s ≤ q := by
        rcases hs3 with h | ⟨h', h, hi, hhi⟩
        · omega
        · obtain ⟨oi, hoi⟩ := oper_at hi
          have := (X.pos R ho hoi (fun _ => clash_mem (by simp [memClash, hhi, hz, ← h, h1])) (fun h => by omega)).2 (by omega)
          have := (L.hv h' hi hhi).1 this
          omega
      have hsq : s = q := by omega
      subst hsq
      exact L.base b j y h1 hs1 (Nat.le_of_lt hj) hs2 hstp hy
    · obtain ⟨i, y', h2, h3, h4, h5⟩ := X.name hs1 (Nat.le_of_lt hj) hs2 h1 hb
      subst h5
      obtain ⟨oi, hoi⟩ := oper_at (ops := ops) (j := i) (by omega)
      have hD := (X.pos R ho hoi (fun _ => clash_mem (by simp [memClash, h4, hz])) (fun h => by omega)).2 h3
      exact L.early i y' j y (by omega) h3 (Nat.le_of_lt hj) h4 hD (fun i' h6 h7 => hs2 i' (by omega) h7) hstp hy
  have her := L.ev X R ho
  rw [Nat.max_eq_left hqj] at her
  have hsr : SR (cut σ (T j).n) (Tr.set .lf b y) (T j).n w := L.sr fun c z hc => by
    rw [Tr.at_set] at hc
    split at hc
    · rename_i e; cases hc; rw [e]; exact hob
    · rw [Tr.at_lf] at hc; cases hc
  obtain ⟨w', hr, hsr', hfr, g0, r0, hσb, hloc⟩ := storeOp_run her hv hy hsr
  have hσb := (cut_some hσb).2
  have hobx : ObR (cut σ (T j).n) b x.o w' := hsr'.blk b x (by rw [Tr.at_set, if_pos rfl])
  have hkeep : ∀ c m o', c ≠ b → ObR (cut σ m) c o' w → ObR (cut σ m) c o' w' := by
    intro c m o' hc h
    refine h.keep (Sg.le_refl _) (fun _ => rfl) fun g r e => hloc.2 _ fun hr => hc ?_
    exact L.inj _ _ _ _ _ _ (cut_some e).2 hσb hr
  have hne : ∀ {i : Nat} {z : Rz}, Z i = z → Rz.store b ≠ z → i ≠ j := fun h1 h2 e => h2 (by rw [← h1, e, hz])
  obtain ⟨g1, g2⟩ := put_get hp (tmps := ca.tmps) (by rw [L.sz, X.nt (Nat.le_of_lt hj)]) undef
  have hdf : (ca.put o.dst undef).defers = ca.defers := by cases o.dst <;> rfl
  -- the block itself, in the views of later places
  have hself : ∀ j' z, j' ≤ ops.size → Sgm Z j j' → (∀ i, i < ops.size → Z i = .store b → ((D i ∨ i = j) ↔ i < j')) → (T j').h.at b = some z → ObR (cut σ (T j').n) b z.o w' := by
    intro j' z h1 h2 h3 h4
    have hlt : j < j' := (h3 j hj hz).1 (.inr rfl)
    have hc : (T j').h.at b = (T (j + 1)).h.at b := by
      refine X.hpc (a := j + 1) hlt h1 (by omega) (fun i' h9 h10 => h2 i' (by omega) h10) fun i' h9 h10 h11 => ?_
      have hi' : i' < ops.size := by omega
      have hD := ((h3 i' hi' h11).2 h10).resolve_right (by omega)
      have := (hstp i' hi' h11).1 hD
      omega
    rw [hc, hh] at h4
    cases h4
    exact hobx.cut_mono (X.n_mono (by omega) h1)
  refine ⟨w', hr, L.q0, fun i hi hzi => ?_, L.bd, fun c g r e => ?_, L.inj, fun c g r e => ?_,
    fun c j' z h1 h2 h3 h4 h5 h6 => ?_, fun i y' j' z h1 h2 h3 h4 h5 h6 h7 h8 => ?_, ?_, ?_, ?_, L.up, L.us, ?_⟩
  · rw [or_iff (hne hzi (by simp))]; exact L.hv i hi hzi
  · rcases L.nm c g r e with h | ⟨i, z, h1, h2, h3, h4, h5⟩
    · exact .inl h
    · exact .inr ⟨i, z, h1, h2, h3, .inl h4, h5⟩
  · rw [hloc.1]; exact L.lt c g r e
  · by_cases hcb : c = b
    · subst hcb
      exact hself j' z h3 (fun i h7 h8 => h4 i (by omega) h8) h5 h6
    · exact hkeep c _ _ hcb (L.base c j' z h1 h2 h3 h4 (fun i hi hs => by rw [← h5 i hi hs, or_iff (hne hs (by simpa using Ne.symm hcb))]) h6)
  · have hD := (or_iff (hne h4 (by simp))).1 h5
    by_cases hcb : (T i).n = b
    · rw [hcb] at h7 h8 ⊢
      refine hself j' z h3 (fun i' h9 h10 => h6 i' ?_ h10) h7 h8
      rcases Nat.lt_or_ge j i with h11 | h11
      · have := X.n_mono (i := j) (j := i) (by omega) (by omega); omega
      · omega
    · exact hkeep _ _ _ hcb (L.early i y' j' z h1 h2 h3 h4 hD h6 (fun i' hi' hs => by rw [← h7 i' hi' hs, or_iff (hne hs (by simpa using Ne.symm hcb))]) h8)
  · rw [put_tmps]
    refine L.tm_next X R ho (Sg.le_refl σ) (Nat.le_refl q) hq g1 fun t u ht hu => ?_
    obtain ⟨e1, e2⟩ := g2 t u ht hu
    rw [e1, e2]
    exact .tup .nil
  · rw [put_tmps, putT_size]; exact L.sz
  · rw [hdf]; exact L.df
  · refine L.fr.trans (nx1 := (T j).n) (σ1 := σ) ⟨Sg.le_refl σ, Nat.le_of_eq hloc.1.symm, fun c hc hno => hloc.2 c fun e => hno b g0 r0 hσb e.symm, fun _ g r h => .inr ⟨g, r, h, rfl⟩, fun _ _ h => h, hfr.tape, hfr.os, hfr.out⟩ ?_
    exact X.n_mono (by omega) (Nat.le_of_lt hj)
end
end Go.Proofs.YtoiojhmfndmflaaGreatDoor.Rex

/-
  Rex, part Zb: an effect (a call, an append ..): it comes up in its turn.
-/
import Derived.Test.YtoiojhmfndmflaaGreatDoorRexZa
namespace Go.Proofs.YtoiojhmfndmflaaGreatDoor.Rex
open Go

section
variable {P : Program} {ib : Nat} {cf : CallF} {rf : RndF} {ops : Array Oper} {T : Nat → DSt} {Z : Nat → Rz} {ord : Nat → Nat → Prop}
variable {σ0 : Sg} {w0 : World} {cs0 : List Frame} {D : Nat → Prop} {σ : Sg} {q : Nat} {w : World} {ca : Act} {cs : List Frame}

theorem kdOf_congr {u v : Option AMd} (h : u.isSome = v.isSome) : kdOf u = kdOf v := by
  cases u <;> cases v <;> first | rfl | cases h

theorem Lk.heavy {fn : FuncId} {rnd : Option Nat} {x : Cx} (hib : IbOk P ib) (hcf : CallOk P cf) (hrf : RndOk P rf) (L : Lk ops T Z σ0 w0 cs0 D σ q w ca cs)
    (X : Txt P ib cf rf rnd.isSome ops T Z ord) {j : Nat} (R : Rdy ord D j) {o : Oper} (ho : ops[j]? = some o) (hz : Z j = .heavy) (hxf : x.fn = fn) (hxr : RdR σ0 rnd x.rnd)
    (hs0 : ∀ b g r, σ0 b g = some r → b < (T 0).n) (hxk : x.kind = kdOf (T 0).a.up)
    {a : Ac} {h : Hp} {n : Nat} {tm : Tr AV} (hg : gdA (Rex.see ops o (T j).a.tm) (guardOf ops.toList o) = some true)
    (hv : opX P ib cf rf rnd.isSome o { (T j).a with tm := Rex.see ops o (T j).a.tm } (T j).h (T j).n = .ok a h n) (hn : (T j).n ≤ n)
    (ht : (o.dst = none ∧ tm = (T j).a.tm) ∨ ∃ d v, o.dst = some d ∧ a.tm.at d = some v ∧ tm = (T j).a.tm.set d v) (hT : T (j + 1) = ⟨⟨tm, (T j).a.nt, a.df, a.up⟩, h, n⟩) (rest : List Nat) (k : List Item) :
    ∃ σ' w' ca' cs', Steps P (lone (mkF x ca (.inRegion ops (j :: rest) :: k) .run) cs w) (lone (mkF x ca' (.inRegion ops rest :: k) .run) cs' w') ∧
      Lk ops T Z σ0 w0 cs0 (fun i => D i ∨ i = j) σ' (j + 1) w' ca' cs' := by
  have hj := lt_ops ho
  have hq := L.q_le
  have hheavy : ∀ i, i < ops.size → Z i = .heavy → (D i ↔ i < j) := by
    intro i hi hhi
    obtain ⟨oi, hoi⟩ := oper_at hi
    exact X.pos R ho hoi (fun _ => clash_mem (by simp [memClash, hhi, hz])) (fun _ => clash_mem (by simp [memClash, hhi, hz]))
  have hqj : q ≤ j := by
    rcases Nat.lt_or_ge j q with h1 | h1
    · exact (R.no ((L.hv j hj hz).2 h1)).elim
    · exact h1
  have hsg : Sgm Z q j := by
    intro i h1 h2 h3
    have hD := (hheavy i (by omega) h3).2 h2
    have := (L.hv i (by omega) h3).1 hD
    omega
  have hN : (T (j + 1)).n = n := by rw [hT]
  have hbN : ∀ b y, (T j).h.at b = some y → b < (T j).n := by
    intro b y hy
    rcases X.from hqj (Nat.le_of_lt hj) hsg hy with ⟨y', hy'⟩ | ⟨i, y', h1, h2, h3, h4⟩
    · have := L.bd b y' hy'; have := X.n_mono hqj (Nat.le_of_lt hj); omega
    · have := X.n_alloc (by omega) h3; have := X.n_mono (i := i + 1) (j := j) h2 (Nat.le_of_lt hj); omega
  -- memory, as it knows it
  have hsr : SR (cut σ (T j).n) (T j).h (T j).n w := L.sr fun b y hy => by
    refine L.blk hqj (Nat.le_of_lt hj) hsg X (fun i hi hst => ?_) (fun i y' h1 h2 h3 h4 => ?_) hy
    · obtain ⟨oi, hoi⟩ := oper_at hi
      have hb := hbN b y hy
      refine X.pos R ho hoi (fun _ => clash_mem (by simp [memClash, hst, hz])) (fun _ => clash_mem ?_)
      have : b < n := by omega
      simp [memClash, hst, hz, hN, this]
    · obtain ⟨oi, hoi⟩ := oper_at (ops := ops) (j := i) (by omega)
      exact (X.pos R ho hoi (fun _ => clash_mem (by simp [memClash, h3, hz])) (fun h => by omega)).2 h2
  obtain ⟨e1, e2⟩ := X.same hqj (Nat.le_of_lt hj) hsg
  have hcq : Sg.le (cut σ (T q).n) (cut σ (T j).n) := cut_mono σ (X.n_mono hqj (Nat.le_of_lt hj))
  have hsee := L.sees X R ho
  rw [Nat.max_eq_left hqj] at hsee
  have hup : (T j).a.up.isSome = (T 0).a.up.isSome := by rw [e2]; exact L.us
  have H : At (cut σ (T j).n) (T j).h (T j).n w fn rnd { (T j).a with tm := Rex.see ops o (T j).a.tm } x ca cs0 cs := by
    refine ⟨hsr, ⟨hsee, ?_⟩, ?_, hxf, hxr.mono fun b g r e => ?_, ?_⟩
    · show DfR _ (T j).a.df _; rw [e1]; exact L.df.mono hcq
    · show UpC _ (T j).a.up _ _; rw [e2]; exact L.up.mono hcq
    · have := hs0 b g r e
      have := X.n_mono (i := 0) (j := j) (by omega) (Nat.le_of_lt hj)
      rw [cut_lt (by omega)]; exact L.fr.le _ _ _ e
    · rw [hxk]
      show _ = kdOf (T j).a.up
      exact kdOf_congr hup.symm
  have hop := op_ok (rest := rest) (k := k) hib hcf hrf H ho (L.gd X R ho hg)
  rw [hv] at hop
  obtain ⟨σ1, w1, ca1, cs1, f1, _, H1, hnt, hus, hst, v', htmps⟩ := hop
  -- the naming behind it
  let σ' : Sg := fun b g => if b < n then σ1 b g else σ b g
  have hgap : ∀ b g, (T j).n ≤ b → b < n → σ b g = none := by
    intro b g hb1 hb2
    cases e : σ b g with
    | none => rfl
    | some r =>
      exfalso
      rcases L.nm b g r e with h1 | ⟨i, y, h1, h2, h3, h4, h5⟩
      · have := X.n_mono hqj (Nat.le_of_lt hj); omega
      · have hNi := X.n_alloc h2 h3
        have hij : i ≠ j := fun e => by subst e; rw [hz] at h3; cases h3
        rcases Nat.lt_or_ge i j with h6 | h6
        · have := X.n_mono (i := i + 1) (j := j) h6 (by omega); omega
        · have := X.n_mono (i := j + 1) (j := i) (by omega) (by omega); omega
  have h1n : ∀ b g r, σ1 b g = some r → b < n := by
    intro b g r e
    rcases Nat.lt_or_ge b n with h1 | h1
    · exact h1
    · rw [H1.sr.nm b h1 g] at e; cases e
  have hle : Sg.le σ σ' := by
    intro b g r e
    show (if b < n then σ1 b g else σ b g) = some r
    rcases Nat.lt_or_ge b (T j).n with h1 | h1
    · rw [if_pos (by omega)]; exact f1.le _ _ _ (by rw [cut_lt h1]; exact e)
    · rcases Nat.lt_or_ge b n with h2 | h2
      · rw [hgap b g h1 h2] at e; cases e
      · rw [if_neg (by omega)]; exact e
  have hlt' : ∀ b g, b < n → σ' b g = σ1 b g := fun b g hb => by show (if b < n then σ1 b g else σ b g) = _; rw [if_pos hb]
  have hge' : ∀ b g, n ≤ b → σ' b g = σ b g := fun b g hb => by show (if b < n then σ1 b g else σ b g) = _; rw [if_neg (by omega)]
  have hcut : cut σ' n = σ1 := by
    funext b g
    rcases Nat.lt_or_ge b n with h1 | h1
    · rw [cut_lt h1, hlt' b g h1]
    · rw [cut_ge h1, H1.sr.nm b h1 g]
  have hfr : Fr (T j).n σ w σ' w1 := by
    refine ⟨hle, f1.size, fun c hc hno => f1.old c hc fun b g r e => hno b g r (cut_some e).2, fun b g r e => ?_, fun b hb hno g => ?_, f1.tape, f1.os, f1.out⟩
    · rcases Nat.lt_or_ge b n with h1 | h1
      · rw [hlt' b g h1] at e
        rcases f1.new b g r e with h2 | ⟨g0, r0, h2, h3⟩
        · exact .inl h2
        · exact .inr ⟨g0, r0, (cut_some h2).2, h3⟩
      · rw [hge' b g h1] at e; exact .inr ⟨g, r, e, rfl⟩
    · rw [hlt' b g (by omega)]
      exact f1.und b hb (fun g => by rw [cut_lt hb]; exact hno g) g
  have hne : ∀ {i : Nat} {z : Rz}, Z i = z → Rz.heavy ≠ z → i ≠ j := fun h1 h2 e => h2 (by rw [← h1, e, hz])
  have hdis : ∀ b g r b' g' r', b < n → n ≤ b' → σ1 b g = some r → σ b' g' = some r' → r.1 ≠ r'.1 := by
    intro b g r b' g' r' h1 h2 e e' hr
    rcases f1.new b g r e with h3 | ⟨g0, r0, h3, h4⟩
    · have := L.lt _ _ _ e'; omega
    · have := L.inj _ _ _ _ _ _ (cut_some h3).2 e' (h4.trans hr); omega
  refine ⟨σ', w1, ca1, cs1, hst, .inr ⟨j, rfl, hj, hz⟩, fun i hi hzi => ?_, fun b y hy => ?_, fun b g r e => ?_, fun b g r b' g' r' e e' hr => ?_, fun b g r e => ?_,
    fun b j' y h1 h2 h3 h4 h5 h6 => ?_, fun i y j' z h1 h2 h3 h4 h5 h6 h7 h8 => ?_, ?_, ?_, ?_, ?_, ?_, L.fr.trans hfr (X.n_mono (by omega) (Nat.le_of_lt hj))⟩
  · have := hheavy i hi hzi
    by_cases hij : i = j
    · subst hij; exact ⟨fun _ => by omega, fun _ => .inr rfl⟩
    · rw [or_iff hij, this]; omega
  · rw [hT] at hy ⊢
    exact H1.sr.bd hy
  · rcases Nat.lt_or_ge b n with h1 | h1
    · exact .inl (by rw [hN]; exact h1)
    · rw [hge' b g h1] at e
      rcases L.nm b g r e with h2 | ⟨i, y, h2, h3, h4, h5, h6⟩
      · have := X.n_mono hqj (Nat.le_of_lt hj); omega
      · refine .inr ⟨i, y, ?_, h3, h4, .inl h5, h6⟩
        have hij := hne h4 (by simp)
        rcases Nat.lt_or_ge i j with h7 | h7
        · have := X.n_alloc h3 h4
          have := X.n_mono (i := i + 1) (j := j) h7 (by omega); omega
        · omega
  · rcases Nat.lt_or_ge b n with h1 | h1
    · rw [hlt' b g h1] at e
      rcases Nat.lt_or_ge b' n with h2 | h2
      · rw [hlt' b' g' h2] at e'
        exact H1.sr.inj _ _ _ _ _ _ e e' hr
      · rw [hge' b' g' h2] at e'
        exact (hdis _ _ _ _ _ _ h1 h2 e e' hr).elim
    · rw [hge' b g h1] at e
      rcases Nat.lt_or_ge b' n with h2 | h2
      · rw [hlt' b' g' h2] at e'
        exact (hdis _ _ _ _ _ _ h2 h1 e' e hr.symm).elim
      · rw [hge' b' g' h2] at e'
        exact L.inj _ _ _ _ _ _ e e' hr
  · rcases Nat.lt_or_ge b n with h1 | h1
    · rw [hlt' b g h1] at e; exact H1.sr.lt _ _ _ e
    · rw [hge' b g h1] at e
      have := L.lt _ _ _ e
      have := f1.size
      omega
  · have hc : (T j').h.at b = (T (j + 1)).h.at b := by
      refine X.hpc h2 h3 h1 h4 fun i' h9 h10 h11 => ?_
      have hi' : i' < ops.size := by omega
      have hD := ((h5 i' hi' h11).2 h10).resolve_right (by omega)
      obtain ⟨oi, hoi⟩ := oper_at hi'
      have := (X.pos R ho hoi (fun h => by omega) (fun _ => clash_mem (by simp [memClash, hz, h11, h1]))).1 hD
      omega
    rw [hc, hT] at h6
    have h7 := H1.sr.blk b y h6
    rw [← hcut] at h7
    exact h7.cut_mono (by rw [← hN]; exact X.n_mono h2 h3)
  · have hD := (or_iff (hne h4 (by simp))).1 h5
    have h9 := L.early i y j' z (by omega) h2 h3 h4 hD h6 (fun i' hi' hs => by rw [← h7 i' hi' hs, or_iff (hne hs (by simp))]) h8
    have hNi : n ≤ (T i).n := by rw [← hN]; exact X.n_mono h1 (by omega)
    refine h9.keep (cut_of_le hle _) (fun g => ?_) fun g r e => ?_
    · simp only [cut]; rw [hge' _ _ hNi]
    · have e := (cut_some e).2
      refine f1.old _ (L.lt _ _ _ e) fun b g' r' e' hr => ?_
      obtain ⟨h10, h11⟩ := cut_some e'
      have := L.inj _ _ _ _ _ _ h11 e hr
      omega
  · refine L.tm_next X R ho hle (by omega) (by omega) (fun t hdt => ?_) (fun t v hdt hv' => ?_)
    · rw [htmps]
      cases hd : o.dst with
      | none => rfl
      | some d =>
        have hne' : d ≠ t := fun e => hdt (by rw [hd, e])
        simp only [putT, Array.getD_eq_getD_getElem?, Array.getElem?_setIfInBounds]
        rw [if_neg hne']
    · rw [Nat.max_self, hN, hcut]
      refine H1.ac.tm.2 t v ?_
      rw [hT] at hv'
      rcases ht with ⟨h1, _⟩ | ⟨d, u, h1, h2, h3⟩
      · rw [h1] at hdt; cases hdt
      · rw [h1] at hdt; cases hdt
        rw [h3] at hv'
        have hv' : ((T j).a.tm.set t u).at t = some v := hv'
        rw [Tr.at_set, if_pos rfl] at hv'
        cases hv'
        exact h2
  · rw [htmps, putT_size]; exact L.sz
  · rw [hN, hcut, hT]; exact H1.ac.df
  · rw [hN, hcut, hT]; exact H1.up
  · rw [hT]; exact hus.trans hup
end
end Go.Proofs.YtoiojhmfndmflaaGreatDoor.Rex

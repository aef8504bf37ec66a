/-
  Rex, part R: rounds of a range over a function.
-/
import Derived.Test.YtoiojhmfndmflaaGreatDoorRexQ
namespace Go.Proofs.YtoiojhmfndmflaaGreatDoor.Rex
open Go

theorem setPs_run {σ : Sg} {nt : Nat} : ∀ {ps : List Tmp} {vs : List AV} {tm tm2 : Tr AV} {vs' : List Value} {tmps : Array Value}, setPs ps vs nt tm = some tm2 → VRs σ vs vs' → TmR σ tm nt tmps →
    ps.length = vs'.length ∧ TmR σ tm2 nt ((ps.zip vs').foldl (fun tmps (t, a) => tmps.setIfInBounds t a) tmps)
  | [], [], tm, tm2, vs', tmps, h, hv, ht => by cases h; cases hv; exact ⟨rfl, ht⟩
  | [], _ :: _, _, _, _, _, h, _, _ => by cases h
  | _ :: _, [], _, _, _, _, h, _, _ => by cases h
  | p :: ps, v :: vs, tm, tm2, vs', tmps, h, hv, ht => by
    cases hv with | cons hv hvs =>
    simp only [setPs, Bool.cond_eq_ite] at h
    split at h
    · rename_i hp
      rw [nat_blt] at hp
      obtain ⟨h1, h2⟩ := setPs_run h hvs (tm_put ht (by simpa using hp) hv)
      exact ⟨by simp [h1], by simpa using h2⟩
    · cases h

theorem look_ok {P : Program} {f : FuncId} {fn : Func} {c : Code} (h : look P f = some (fn, c)) : P.funcs[f]? = some fn ∧ fn.body = some c ∧ ∀ as W, (callFunc f as).run P W = .ok (.enter f as) W := by
  unfold look at h
  split at h
  · cases h
  · rename_i g hg
    rw [nthC_eq, Array.getElem?_toList] at hg
    rw [Bool.cond_eq_ite] at h
    split at h
    · cases h
    · rename_i hn
      split at h
      · cases h
      · rename_i c' hc
        cases h
        refine ⟨hg, hc, fun as W => ?_⟩
        have h1 : fn.name ≠ "runtime.NumGoroutine" := by simpa using hn
        simp [callFunc, hg, h1, hc]

theorem loopAt_ok {σ : Sg} {h : Hp} {n : Nat} {w : World} (hs : SR σ h n w) {b v l : Nat} {lp : Lp} (hl : loopAt h b = some (v, lp)) (hσ : σ b 0 = some (l, 0, 0)) :
    h.at b = some ⟨v, .loop lp⟩ ∧ (∀ g, 0 < g → σ b g = none) ∧ ∃ df' tm',
      w.heap[l]? = some (.loop { state := lp.st, pending := lp.pend, fn := lp.fn, tmps := tm', params := lp.ps, assign := lp.asg, body := lp.body, defers := df' }) ∧
      TmR σ lp.tm lp.nt tm' ∧ σ lp.df 0 = some (df', 0, 0) := by
  unfold loopAt at hl
  split at hl
  · rename_i v' l' hb
    cases hl
    obtain ⟨h0, c, df', tm', h1, h2, h3, h4⟩ := hs.blk b _ hb
    rw [hσ] at h1
    cases h1
    exact ⟨hb, h0, df', tm', h2, h3, h4⟩
  · cases hl

theorem getLoop_run {P : Program} {w : World} {l : Nat} {r : Loop} (h : w.heap[l]? = some (.loop r)) : (Instr.getLoop l).run P w = .ok r w := by
  have := getMap_run (P := P) h (by simp)
  simp [Instr.getLoop, this]

/-- A loop's state turns. -/
theorem loop_upd {σ : Sg} {h : Hp} {n : Nat} {w : World} (hs : SR σ h n w) {b l df' : Nat} {tm' : Array Value} (h0 : ∀ g, 0 < g → σ b g = none) (hσ : σ b 0 = some (l, 0, 0)) {o : Obj} (hl : w.heap[l]? = some o)
    (lp : Lp) (h3 : TmR σ lp.tm lp.nt tm') (h4 : σ lp.df 0 = some (df', 0, 0)) (v : Nat) :
    SR σ (h.set b ⟨v, .loop lp⟩) n (setW w l (.loop { state := lp.st, pending := lp.pend, fn := lp.fn, tmps := tm', params := lp.ps, assign := lp.asg, body := lp.body, defers := df' })) ∧
    Fr n σ w σ (setW w l (.loop { state := lp.st, pending := lp.pend, fn := lp.fn, tmps := tm', params := lp.ps, assign := lp.asg, body := lp.body, defers := df' })) :=
  obj_upd hs hσ _ _ ⟨h0, l, df', tm', hσ, setW_same _ (lt_of_heap hl), h3, h4⟩

theorem rnd_ok {P : Program} {cx : CodeF} (hcx : CodeOk P cx) : RndOk P (rndX P cx) := by
  intro b args h n e up h' n' hre σ w args' l hs hva hσ
  unfold rndX at hre
  split at hre
  · cases hre
  · rename_i v0 L hL
    obtain ⟨hb, h0, df', tm', hl, htm, hdf⟩ := loopAt_ok hs hL hσ
    split at hre
    · rename_i tm2 fnc hps hlook
      obtain ⟨hlen, htm2⟩ := setPs_run hps hva htm
      obtain ⟨hfn, _, _⟩ := look_ok (c := fnc.2) (fn := fnc.1) hlook
      have hy : (Instr.yield l ⟨args'⟩).run P w = .ok (.round l L.fn ((L.ps.toList.zip args').foldl (fun tmps (t, a) => tmps.setIfInBounds t a) tm') L.asg L.body) w := by
        have hsz : ¬ ((⟨args'⟩ : Array Value).size ≠ L.ps.size) := by
          simp only [ne_eq, Decidable.not_not]
          show args'.length = L.ps.toList.length
          exact hlen.symm
        have e1 : (L.ps.zip ⟨args'⟩).foldl (fun tmps (t, a) => tmps.setIfInBounds t a) tm' = (L.ps.toList.zip args').foldl (fun tmps (t, a) => tmps.setIfInBounds t a) tm' := by
          rw [← Array.foldl_toList]; simp
        simp only [Instr.yield, Sem.run_bind, getLoop_run hl, Result.andThen_ok, if_neg hsz, Sem.run_pure, e1]
      refine ⟨_, _, _, _, hy, fun c cs => ?_⟩
      let x : Cx := ⟨L.fn, .normal, some l⟩
      have H0 : At σ h n w L.fn (some b) ⟨tm2, L.nt, [], none⟩ x ⟨(L.ps.toList.zip args').foldl (fun tmps (t, a) => tmps.setIfInBounds t a) tm', []⟩ (c :: cs) (c :: cs) :=
        ⟨hs, ⟨htm2, .nil⟩, rfl, rfl, ⟨l, rfl, hσ⟩, rfl⟩
      have h1 := hcx L.fn (some b) L.asg _ h n σ w _ _ _ x [.beginRound, .code L.body] H0
      split at hre
      · rename_i a1 hp1 n1 hasg
        rw [hasg] at h1
        obtain ⟨σ1, w1, ca1, cs1, f1, n01, H1, _, u1, st1⟩ := h1
        have hup1 : a1.up = none := by
          cases hq : a1.up with
          | none => rfl
          | some m => rw [hq] at u1; cases u1
        have hcs1 : cs1 = c :: cs := by have := H1.up; rw [hup1] at this; exact this
        subst hcs1
        split at hre
        · cases hre
        · rename_i v1 L1 hL1
          obtain ⟨hb1, h01, df1, tm1, hl1, htm1, hdf1⟩ := loopAt_ok H1.sr hL1 (f1.le _ _ _ hσ)
          split at hre
          · rename_i hready
            have hbeg : (Instr.beginRound l).run P w1 = .ok () (setW w1 l (.loop { state := .busy, pending := L1.pend, fn := L1.fn, tmps := tm1, params := L1.ps, assign := L1.asg, body := L1.body, defers := df1 })) := by
              have hset := setObj_run (P := P) (o' := .loop { state := .busy, pending := L1.pend, fn := L1.fn, tmps := tm1, params := L1.ps, assign := L1.asg, body := L1.body, defers := df1 }) hl1 (by simp)
              simp only [Instr.beginRound, Sem.run_bind, getLoop_run hl1, Result.andThen_ok, hset, hready, Sem.run_pure]
            obtain ⟨s2, f2⟩ := loop_upd H1.sr h01 (f1.le _ _ _ hσ) hl1 { L1 with st := .busy } htm1 hdf1 (v1 + 1)
            have H2 : At σ1 (hp1.set b ⟨v1 + 1, .loop { L1 with st := .busy }⟩) n1 _ L.fn (some b) a1 x ca1 (c :: cs) (c :: cs) := H1.mono (Sg.le_refl _) s2 H1.ac H1.up rfl
            have h2 := hcx L.fn (some b) L.body a1 _ n1 σ1 _ _ _ _ x [] H2
            have st2 := st1.trans (.one (st_beginRound (x := x) rfl hbeg))
            split at hre
            · cases hre
            · rename_i e2 a2 hp2 n2 hbody
              rw [hbody] at h2
              obtain ⟨σ2, w2, ca2, cs2, f3, n12, H3, _, u2, st3⟩ := h2
              have hup2 : a2.up = none := by
                cases hq : a2.up with
                | none => rfl
                | some m => rw [hq, hup1] at u2; cases u2
              have hcs2 : cs2 = c :: cs := by have := H3.up; rw [hup2] at this; exact this
              subst hcs2
              have hfr : Fr n σ w σ2 w2 := (f1.trans (f2.trans f3 (Nat.le_refl _)) n01)
              have hσ2 : σ2 b 0 = some (l, 0, 0) := hfr.le _ _ _ hσ
              split at hre
              · cases hre
              · rename_i hdfe
                have hdf2 : ca2.defers = [] := by
                  have := H3.ac.df
                  rw [hdfe] at this
                  generalize hq : ca2.defers = q at this
                  cases this; rfl
                have fin : ∀ (j : Option Code) (todo : List Item), LvI todo j → Steps P (lone (mkF x ca1 [.code L.body] .run) (c :: cs) (setW w1 l (.loop { state := .busy, pending := L1.pend, fn := L1.fn, tmps := tm1, params := L1.ps, assign := L1.asg, body := L1.body, defers := df1 })))
                    (lone (mkF x ca2 todo .run) (c :: cs) w2) → (match some j, loopAt hp2 b with
                    | some j, some (v, l) => RE.ok (.retd (.bool (jno j))) none
                      (hp2.set b ⟨v + 1, .loop { l with st := jst j, pend := j }⟩) n2
                    | _, _ => .no) = .ok e up h' n' →
                    ∃ σ' w', Fr n σ w σ' w' ∧ SR σ' h' n' w' ∧ n ≤ n' ∧ EndTo P σ' (lone (mkF x ⟨(L.ps.toList.zip args').foldl (fun tmps (t, a) => tmps.setIfInBounds t a) tm', []⟩ [.code L.asg, .beginRound, .code L.body] .run) (c :: cs) w) c cs w' e := by
                  intro j todo hlv hst hre
                  split at hre
                  · rename_i j' v2 L2 hje hL2
                    cases hje
                    obtain ⟨hb2, h02, df2, tm2', hl2, htm2', hdf2'⟩ := loopAt_ok H3.sr hL2 hσ2
                    obtain ⟨s4, f4⟩ := loop_upd H3.sr h02 hσ2 hl2 { L2 with st := jst j, pend := j } htm2' hdf2' (v2 + 1)
                    have hend : (Instr.endRound l j).run P w2 = .ok (.bool (jno j))
                        (setW w2 l (.loop { state := jst j, pending := j, fn := L2.fn, tmps := tm2', params := L2.ps, assign := L2.asg, body := L2.body, defers := df2 })) := by
                      have hset := setObj_run (P := P) (o' := .loop { state := jst j, pending := j, fn := L2.fn, tmps := tm2', params := L2.ps, assign := L2.asg, body := L2.body, defers := df2 }) hl2 (by simp)
                      clear hre hlv s4 f4
                      cases j with
                      | none =>
                        simp only [jst] at hset
                        simp only [jst, jno, Instr.endRound, Sem.run_bind, getLoop_run hl2, Result.andThen_ok, Option.isNone_none, if_true, hset, Sem.run_pure]
                      | some jc =>
                        simp only [jst] at hset
                        simp only [jst, jno, Instr.endRound, Sem.run_bind, getLoop_run hl2, Result.andThen_ok, Option.isNone_some, Bool.false_eq_true, if_false, hset, Sem.run_pure]
                    cases hre
                    refine ⟨σ2, _, hfr.trans f4 (by omega), s4, by omega, _, .bool _, (st2.trans hst).trans (.one (st_endRound (x := x) rfl rfl hlv hend c))⟩
                  · cases hre
                split at hre
                · -- a panic
                  rename_i ch
                  obtain ⟨ch', todo, hpe, hst⟩ := st3
                  cases hre
                  refine ⟨σ2, w2, hfr, H3.sr, by omega, ch', hpe, (st2.trans hst).trans (.one (step_leave_panicked ⟨rfl, hdf2, fnc.1, hfn⟩))⟩
                · rename_i e3 hnp
                  cases e2 with
                  | panic ch => exact (hnp ch rfl).elim
                  | normal => exact fin none [] .fin st3 hre
                  | ret => obtain ⟨todo, hst⟩ := st3; exact fin (some .ret) _ (.ret todo) hst hre
                  | exit id => obtain ⟨j, hj, hst⟩ := st3; exact fin (some (.exit id)) _ (.exit id (j ++ []) (by rw [hj]; rfl)) hst hre
                  | goto g => obtain ⟨j, hj, hst⟩ := st3; exact fin (some (.goto g)) _ (.goto g (j ++ []) (by rw [hj]; rfl)) hst hre
          · cases hre
      · cases hre
    · cases hre
end Go.Proofs.YtoiojhmfndmflaaGreatDoor.Rex

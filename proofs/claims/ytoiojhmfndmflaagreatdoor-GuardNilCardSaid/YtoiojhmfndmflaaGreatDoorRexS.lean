/-
  Rex, part S: a range over a function.
-/
import Derived.Test.YtoiojhmfndmflaaGreatDoorRexR
namespace Go.Proofs.YtoiojhmfndmflaaGreatDoor.Rex
open Go

theorem isBusy_false {s : LoopState} (h : isBusy s = false) : (s == .busy) = false := by
  cases s <;> first | rfl | cases h

theorem st_endLoop {P : Program} {x : Cx} {ca : Act} {k : List Item} {cs : List Frame} {w w' : World} {l : Nat} {j : Option Code} (hr : (Instr.endLoop l).run P w = .ok j w') :
    step P (lone (mkF x ca (.endRangeFunc l :: k) .run) cs w) = .next (lone (mkF x ca ((j.map Item.code).toList ++ k) .run) cs w') :=
  step_lone_go (by simp [stepG, stepG.exec, mkF, Sem.runT_eq, hr])

theorem endLoop_run {P : Program} {w : World} {l : Nat} {r : Loop} (h : w.heap[l]? = some (.loop r)) (hb : (r.state == .busy) = false) :
    (Instr.endLoop l).run P w = .ok r.pending (setW w l (.loop { r with state := .exhausted })) := by
  have hset := setObj_run (P := P) (o' := .loop { r with state := .exhausted }) h (by simp)
  simp only [Instr.endLoop, Sem.run_bind, getLoop_run h, Result.andThen_ok, hb, Bool.false_eq_true, if_false, hset, Sem.run_pure]

theorem endLp_ok {P : Program} {σ : Sg} {h : Hp} {n : Nat} {w : World} {fn : FuncId} {rnd : Option Nat} {a : Ac} {x : Cx} {ca : Act} {cs0 cs : List Frame} {b l : Nat} {k : List Item}
    {m : Machine} {e : AEnd} {up : Option AMd} (H : At σ h n w fn rnd a x ca cs0 cs) (hσ : σ b 0 = some (l, 0, 0)) (he : EndTo P σ m (mkF x ca (.inRangeFunc l :: k) .run) cs w e) :
    RcR P σ n w fn rnd a x cs0 m k (endLp b a (.ok e up h n)) := by
  cases e with
  | pand ch =>
    obtain ⟨ch', hc, hst⟩ := he
    exact ⟨σ, w, ca, cs, Fr.refl _ _ _, Nat.le_refl _, H, rfl, rfl, ch', .inRangeFunc l :: k, hc, hst⟩
  | retd v =>
    obtain ⟨v', _, hst⟩ := he
    unfold endLp
    dsimp only
    split
    · trivial
    · rename_i v L hL
      obtain ⟨hb, h0, df', tm', hl, htm, hdf⟩ := loopAt_ok H.sr hL hσ
      cases hbz : isBusy L.st with
      | true => trivial
      | false =>
        simp only [cond_false]
        split
        · trivial
        · rename_i e he
          obtain ⟨s2, f2⟩ := loop_upd H.sr h0 hσ hl { L with st := .exhausted } htm hdf (v + 1)
          have hend := endLoop_run (P := P) hl (isBusy_false hbz)
          have hst2 := hst.trans (.one (st_endLoop (x := x) (ca := ca) (k := k) (cs := cs) hend))
          have H2 := H.mono (Sg.le_refl _) s2 H.ac H.up rfl
          refine ⟨σ, _, ca, cs, f2, Nat.le_refl _, H2, rfl, rfl, ?_⟩
          clear H2 hend s2 f2
          cases hp : L.pend with
          | none =>
            rw [hp] at he hst2
            cases he
            exact hst2
          | some c =>
            rw [hp] at he hst2
            cases c <;> cases he
            · exact ⟨[], fun _ => rfl, hst2⟩
            · exact ⟨[], fun _ => rfl, hst2⟩
            · exact ⟨_, hst2⟩

theorem st_rangeFunc {P : Program} {x : Cx} {ca : Act} {k : List Item} {cs : List Frame} {w w' : World} {g : Operand} {ps : Array Tmp} {asg body : Code} {l : Nat} {mark : List Deferred} {gf : FuncId} {first cap : List Value}
    (hr : (Instr.enterLoop x.fn ca.tmps ps asg body x.rnd).run P w = .ok (l, mark) w') (hg : ca.eval g = .func (.func gf) ⟨first⟩ ⟨cap⟩) (hc : ∀ as W, (callFunc gf as).run P W = .ok (.enter gf as) W) :
    step P (lone (mkF x ca (.code (.rangeFunc g ps asg body) :: k) .run) cs w) =
      .next (lone (Frame.enter P gf ⟨first ++ [.func (.yield l) #[] #[]] ++ cap⟩ .normal) (mkF x { ca with defers := mark ++ ca.defers } (.inRangeFunc l :: k) .run :: cs) w') := by
  have he : ∀ o, (mkF x { ca with defers := mark ++ ca.defers } (.inRangeFunc l :: k) .run).eval o = ca.eval o := fun o => by rw [mkF_eval]; rfl
  have hg2 := (he g).trans hg
  have hy := he (.const (.func (.yield l) #[] #[]))
  have hsem : ((do let d ← resolve (mkF x { ca with defers := mark ++ ca.defers } (.inRangeFunc l :: k) .run).eval { callee := .value g, args := #[.const (.func (.yield l) #[] #[])], argTypes := #[] } 0; invoke d.target d.args : Sem Next)).run P w' =
      .ok (.enter gf ⟨first ++ [.func (.yield l) #[] #[]] ++ cap⟩) w' := by
    have e1 : (⟨first⟩ ++ #[Operand.const (.func (.yield l) #[] #[])].map (mkF x { ca with defers := mark ++ ca.defers } (.inRangeFunc l :: k) .run).eval ++ ⟨cap⟩ : Array Value) = ⟨first ++ [.func (.yield l) #[] #[]] ++ cap⟩ := by
      apply Array.ext'; simp [hy, Act.eval]
    simp only [resolve, hg2, Deferred.ofValue, Sem.run_bind, Sem.run_pure, Result.andThen_ok, invoke]
    rw [e1]; exact hc _ _
  refine step_lone_go ?_
  simp only [mkF] at hsem
  simp [stepG, stepG.exec, stepG.apply, mkF, Sem.runT_eq, hr, hsem]

theorem range_ok {P : Program} {cf : CallF} {σ : Sg} {h : Hp} {n : Nat} {w : World} {fn : FuncId} {rnd : Option Nat} {a : Ac} {x : Cx} {ca : Act} {cs0 cs : List Frame} {k : List Item}
    (hcf : CallOk P cf) (H : At σ h n w fn rnd a x ca cs0 cs) (g : Operand) (ps : Array Tmp) (asg body : Code) :
    RcR P σ n w fn rnd a x cs0 (lone (mkF x ca (.code (.rangeFunc g ps asg body) :: k) .run) cs w) k (rangeX cf fn rnd g ps asg body a h n) := by
  unfold rangeX
  split
  · rename_i gf first cap hgv
    have vg := act_eval H.ac _ _ hgv
    generalize hge : ca.eval g = gv at vg
    cases vg with | fn v1 v2 =>
    rename_i first' cap'
    -- what the call owes, once the loop's record lies there
    have go : ∀ (σ1 : Sg) (w1 : World) (h1 : Hp) (n1 b l : Nat) (mark : List Deferred) (a1 : Ac), Fr n σ w σ1 w1 → n ≤ n1 → SR σ1 h1 n1 w1 → σ1 b 0 = some (l, 0, 0) →
        (Instr.enterLoop x.fn ca.tmps ps asg body x.rnd).run P w = .ok (l, mark) w1 → AcR σ1 a1 { ca with defers := mark ++ ca.defers } → a1.up = a.up → a1.nt = a.nt →
        RcR P σ n w fn rnd a x cs0 (lone (mkF x ca (.code (.rangeFunc g ps asg body) :: k) .run) cs w) k (endLp b a1 (cf gf (first ++ [.yfn b] ++ cap) none h1 n1)) := by
      intro σ1 w1 h1 n1 b l mark a1 f1 hn1 s1 hb hent hac hup hnt
      have H1 : At σ1 h1 n1 w1 fn rnd a1 x { ca with defers := mark ++ ca.defers } cs0 cs := H.mono f1.le s1 hac (by rw [hup]; exact H.up.mono f1.le) (by rw [hup])
      generalize hre : cf gf (first ++ [.yfn b] ++ cap) none h1 n1 = re
      cases re with
      | no => trivial
      | ok e up h' n' =>
        have hall : VRs σ1 (first ++ [.yfn b] ++ cap) (first' ++ [.func (.yield l) #[] #[]] ++ cap') := ((v1.mono f1.le).append (.cons (.yfn hb) .nil)).append (v2.mono f1.le)
        obtain ⟨hcall, σ', w', cs', fr, q1, q2, q3, q4, q5, q6, q7⟩ :=
          hcf gf _ none h1 n1 e up h' n' hre σ1 w1 _ (mkF x { ca with defers := mark ++ ca.defers } (.inRangeFunc l :: k) .run :: cs) _ s1 hall rfl
        have hcs : cs' = mkF x { ca with defers := mark ++ ca.defers } (.inRangeFunc l :: k) .run :: cs := by
          cases up with
          | none => exact q4
          | some m => cases q5
        subst hcs
        have H2 := H1.mono q1.le q2 (H1.ac.mono q1.le) (H1.up.mono q1.le) rfl
        have hst := st_rangeFunc (k := k) (cs := cs) hent hge hcall
        refine RcR.of_step (f1.trans q1 hn1) (Nat.le_trans hn1 q3) hnt (by rw [hup]) (.one hst) ?_
        exact endLp_ok H2 (q1.le _ _ _ hb) (call_end q6 q7)
    have hun : ∀ g, σ n g = none := H.sr.nm n (Nat.le_refl _)
    split
    · have hx : x.rnd = none := H.rd
      have s1 := H.sr.alloc hun (.deferred (some [])) ⟨0, .dfr true⟩ 0 0 (n + 1) (by omega) (by omega)
        ⟨fun g hg => by rw [Sg.add_other _ _ (fun e => by omega)]; exact hun g, _, Sg.add_same _ _ _ _, push_new _ _⟩
      have f1 := Fr.alloc (w := w) (nx := n) hun (Nat.le_refl _) (.deferred (some [])) 0 0
      have hun2 := fun g => s1.nm (n + 1) (Nat.le_refl _) g
      have hdf : σ.add n 0 (w.heap.size, 0, 0) n 0 = some (w.heap.size, 0, 0) := Sg.add_same _ _ _ _
      have f2 := Fr.alloc (w := newW w (.deferred (some []))) (nx := n) hun2 (by omega)
        (.loop { state := .ready, pending := none, fn := x.fn, tmps := ca.tmps, params := ps, assign := asg, body, defers := w.heap.size }) 0 0
      have s2 := s1.alloc hun2 (.loop { state := .ready, pending := none, fn := x.fn, tmps := ca.tmps, params := ps, assign := asg, body, defers := w.heap.size })
        ⟨0, .loop ⟨.ready, none, fn, a.tm, a.nt, ps, asg, body, n⟩⟩ 0 0 (n + 2) (by omega) (by omega)
        ⟨fun g hg => by rw [Sg.add_other _ _ (fun e => by omega)]; exact hun2 g, _, w.heap.size, ca.tmps, Sg.add_same _ _ _ _, by rw [← H.fn]; exact push_new _ _, H.ac.tm.mono (f1.trans f2 (Nat.le_refl _)).le, f2.le _ _ _ hdf⟩
      refine go _ _ _ _ (n + 1) _ [{ target := .collected w.heap.size, args := #[] }] _ (f1.trans f2 (Nat.le_refl _)) (by omega) s2 (Sg.add_same _ _ _ _) ?_ ⟨H.ac.tm.mono (f1.trans f2 (Nat.le_refl _)).le, .coll (f2.le _ _ _ hdf) (H.ac.df.mono (f1.trans f2 (Nat.le_refl _)).le)⟩ rfl rfl
      rw [hx]
      simp [Instr.enterLoop, newW]; rfl
    · rename_i l
      split
      · trivial
      · rename_i v lp hlp
        obtain ⟨l', hx, hσ⟩ : ∃ l', x.rnd = some l' ∧ σ l 0 = some (l', 0, 0) := H.rd
        obtain ⟨hb, h0, df', tm', hl, htm, hdf⟩ := loopAt_ok H.sr hlp hσ
        have f1 := Fr.alloc (w := w) (nx := n) hun (Nat.le_refl _) (.loop { state := .ready, pending := none, fn := x.fn, tmps := ca.tmps, params := ps, assign := asg, body, defers := df' }) 0 0
        have s1 := H.sr.alloc hun (.loop { state := .ready, pending := none, fn := x.fn, tmps := ca.tmps, params := ps, assign := asg, body, defers := df' })
          ⟨0, .loop ⟨.ready, none, fn, a.tm, a.nt, ps, asg, body, lp.df⟩⟩ 0 0 (n + 1) (by omega) (by omega)
          ⟨fun g hg => by rw [Sg.add_other _ _ (fun e => by omega)]; exact hun g, _, df', ca.tmps, Sg.add_same _ _ _ _, by rw [← H.fn]; exact push_new _ _, H.ac.tm.mono f1.le, f1.le _ _ _ hdf⟩
        refine go _ _ _ _ n _ [] a f1 (by omega) s1 (Sg.add_same _ _ _ _) ?_ (H.ac.mono f1.le) rfl rfl
        rw [hx]
        simp [Instr.enterLoop, getLoop_run hl, newW]
  · trivial
end Go.Proofs.YtoiojhmfndmflaaGreatDoor.Rex

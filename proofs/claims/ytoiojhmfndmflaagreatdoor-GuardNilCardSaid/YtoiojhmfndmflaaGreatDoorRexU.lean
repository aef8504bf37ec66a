/-
  Rex, part U: results, deferred calls, calls.
-/
import Derived.Defers
import Derived.RangeFuncLeaves
import Derived.Test.YtoiojhmfndmflaaGreatDoorRexT
namespace Go.Proofs.YtoiojhmfndmflaaGreatDoor.Rex
open Go

/-! ## Results -/

theorem load_asAddr {P : Program} {t : TypeId} {p v : Value} {w w' : World} (h : (Instr.loadAt t p).run P w = .ok v w') : (do loadVar t (← asAddr p) : Sem Value).run P w = .ok v w' := by
  unfold Instr.loadAt Instr.sureAddr at h
  split at h
  · simpa [asAddr] using h
  · simp at h

def resS (tmps : Array Value) : ResultVar → Sem Value
  | .tmp t => pure (tmps.getD t undef)
  | .cell a t => do loadVar t (← asAddr (tmps.getD a undef))

theorem resA1_run {P : Program} {σ : Sg} {h : Hp} {n : Nat} {w : World} (hs : SR σ h n w) {tm : Tr AV} {nt : Nat} {tmps : Array Value} (ht : TmR σ tm nt tmps) {r : ResultVar} {v : AV} (hr : resA1 P tm h r = some v) :
    ∃ v', (resS tmps r).run P w = .ok v' w ∧ VR σ v v' := by
  cases r with
  | tmp t => exact ⟨_, rfl, ht.2 t v hr⟩
  | cell a t =>
    simp only [resA1] at hr
    cases hp : tm.at a with
    | none => rw [hp] at hr; cases hr
    | some p =>
      rw [hp] at hr
      obtain ⟨v', h1, h2⟩ := load_run (P := P) hs hr (ht.2 a p hp)
      exact ⟨v', load_asAddr h1, h2⟩

theorem resAs_run {P : Program} {σ : Sg} {h : Hp} {n : Nat} {w : World} (hs : SR σ h n w) {tm : Tr AV} {nt : Nat} {tmps : Array Value} (ht : TmR σ tm nt tmps) :
    ∀ {rs : List ResultVar} {vs : List AV}, resAs P tm h rs = some vs → ∃ vs', (rs.mapM (resS tmps)).run P w = .ok vs' w ∧ VRs σ vs vs'
  | [], vs, h => by cases h; exact ⟨[], by simp, .nil⟩
  | r :: rs, vs, h => by
    unfold resAs at h
    split at h
    · cases h
    · rename_i v hv
      split at h
      · cases h
      · rename_i l hl
        cases h
        obtain ⟨v', h1, h2⟩ := resA1_run hs ht hv
        obtain ⟨vs', h3, h4⟩ := resAs_run hs ht hl
        exact ⟨v' :: vs', by rw [List.mapM_cons]; simp only [Sem.run_bind, h1, h3, Result.andThen_ok, Sem.run_pure], .cons h2 h4⟩

theorem results_run {P : Program} {σ : Sg} {h : Hp} {n : Nat} {w : World} (hs : SR σ h n w) {tm : Tr AV} {nt : Nat} {tmps : Array Value} (ht : TmR σ tm nt tmps) {fn : Func} {v : AV}
    (hr : resultsA P fn tm h = some v) : ∃ v', (results fn tmps).run P w = .ok v' w ∧ VR σ v v' := by
  unfold resultsA at hr
  have e : results fn tmps = (do let vs ← fn.results.mapM (resS tmps); pure (if h : vs.size = 1 then vs[0] else .tuple vs)) := by
    unfold results
    congr 1
  have key : ∀ l, resAs P tm h fn.results.toList = some l → ∃ vs', (results fn tmps).run P w = .ok (if h : (⟨vs'⟩ : Array Value).size = 1 then (⟨vs'⟩ : Array Value)[0] else .tuple ⟨vs'⟩) w ∧ VRs σ l vs' := by
    intro l hl
    obtain ⟨vs', h1, h2⟩ := resAs_run hs ht hl
    refine ⟨vs', ?_, h2⟩
    rw [e, Array.mapM_eq_mapM_toList]
    simp only [Sem.run_bind, Sem.run_map, h1, Result.andThen_ok, Sem.run_pure]
  split at hr
  · cases hr
  · rename_i v0 hl
    cases hr
    obtain ⟨vs', h1, h2⟩ := key _ hl
    cases h2 with | cons h2 h3 =>
    cases h3
    exact ⟨_, h1, h2⟩
  · rename_i l hno hl
    cases hr
    obtain ⟨vs', h1, h2⟩ := key _ hl
    refine ⟨_, h1, ?_⟩
    split
    · rename_i h1s
      exfalso
      cases h2 with
      | nil => simp at h1s
      | cons h3 h4 =>
        cases h4 with
        | nil => exact hno _ rfl
        | cons h5 h6 => simp at h1s
    · exact .tup h2

/-! ## The deferred calls -/

theorem dropWhile_pe {σ : Sg} {l : List Pe} {l' : List PanicEntry} (h : PeR σ l l') : l'.dropWhile (!·.goexit) = [] := by
  induction h with
  | nil => rfl
  | cons _ _ ih => simp [List.dropWhile, ih]

theorem settle_run {σ : Sg} {m : AMd} {md : FrameMode} (h : MdR σ m md) : MdR σ (settleA m) (settle md) := by
  cases h with
  | ret => exact .ret
  | pan h =>
    cases h with
    | nil => exact .pan .nil
    | cons hv ht =>
      rename_i v v' b l l'
      cases b with
      | false => exact .pan (.cons hv ht)
      | true =>
        simp only [settleA, settle, dropWhile_pe ht]
        exact .ret

theorem raised_run {σ : Sg} {m : AMd} {md : FrameMode} (h : MdR σ m md) {ch : List Pe} {ch' : List PanicEntry} (hc : PeR σ ch ch') : MdR σ (raisedA m ch) (raised md ch') := by
  cases h with
  | ret => exact .pan hc
  | pan h => exact .pan (hc.append h)

theorem md_run {σ : Sg} {m : AMd} {md : FrameMode} (h : MdR σ m md) : md ≠ .run := by
  cases h <;> simp

theorem take_run {P : Program} {w : World} {c : Nat} (h : w.heap[c]? = some (.deferred (some []))) : (Instr.takeDeferred c).run P w = .ok [] (setW w c (.deferred none)) := by
  have h1 := getMap_run (P := P) h (by simp)
  have h2 := setObj_run (P := P) (o' := .deferred none) h (by simp)
  simp [Instr.takeDeferred, h1, h2]

theorem leave_ok {P : Program} {cf : CallF} (hcf : CallOk P cf) {fn : Func} {x : Cx} {up : Option AMd} (hfn : P.funcs[x.fn]? = some fn) (hk : x.kind = kdOf up) {tm : Tr AV} {nt : Nat} {tmps : Array Value}
    {todo : List Item} {cs0 cs : List Frame} : ∀ (ds : List ADf) (ds' : List Deferred) (m : AMd) (md : FrameMode) (σ : Sg) (h : Hp) (n : Nat) (w : World) (e : AEnd) (up' : Option AMd) (h' : Hp) (n' : Nat),
      leaveX P cf fn tm up ds m h n = .ok e up' h' n' → MdR σ m md → DfR σ ds ds' → TmR σ tm nt tmps → SR σ h n w → UpC σ up cs0 cs →
      ∃ σ' w' fr, Fr n σ w σ' w' ∧ SR σ' h' n' w' ∧ n ≤ n' ∧ UpC σ' up' cs0 cs ∧ up'.isSome = up.isSome ∧ Steps P (lone (mkF x ⟨tmps, ds'⟩ todo md) cs w) (lone fr cs w') ∧ Lv P σ' fr w' (kdOf up) e ∧ fr.fn = x.fn
  | [], ds', m, md, σ, h, n, w, e, up', h', n' => by
    intro hre hm hd ht hs hu
    cases hd
    cases hm with
    | ret =>
      unfold leaveX at hre
      split at hre
      · cases hre
      · rename_i v hv
        cases hre
        obtain ⟨v', h1, h2⟩ := results_run hs ht hv
        exact ⟨σ, w, _, Fr.refl _ _ _, hs, Nat.le_refl _, hu, rfl, Steps.refl _ _, ⟨rfl, rfl, hk, fn, v', hfn, h1, h2⟩, rfl⟩
    | pan hp =>
      cases hre
      exact ⟨σ, w, _, Fr.refl _ _ _, hs, Nat.le_refl _, hu, rfl, Steps.refl _ _, ⟨_, fn, rfl, rfl, hk, hfn, hp⟩, rfl⟩
  | .coll b :: ds, ds', m, md, σ, h, n, w, e, up', h', n' => by
    intro hre hm hd ht hs hu
    cases hd with | coll hb hd =>
    rename_i c ds'
    unfold leaveX at hre
    split at hre
    · rename_i v hb2
      obtain ⟨h0, c', h1, h2⟩ := hs.blk b _ hb2
      rw [hb] at h1
      cases h1
      obtain ⟨s2, f2⟩ := obj_upd (nx := n) hs hb (.deferred none) ⟨v + 1, .dfr false⟩ ⟨h0, _, hb, setW_same _ (lt_of_heap h2)⟩
      have hst := step_collected (P := P) (fr := mkF x ⟨tmps, { target := .collected c, args := #[] } :: ds'⟩ todo md) (cs := cs) (md_run hm) rfl rfl (take_run h2)
      obtain ⟨σ', w', fr, q1, q2, q3, q4, q5, q6, q7⟩ := leave_ok hcf hfn hk (todo := todo) ds ds' m md σ _ n _ e up' h' n' hre hm hd ht s2 hu
      exact ⟨σ', w', fr, f2.trans q1 (Nat.le_refl _), q2, q3, q4, q5, (Steps.one hst).trans q6, q7⟩
    · cases hre
  | .fn f cap args :: ds, ds', m, md, σ, h, n, w, e, up', h', n' => by
    intro hre hm hd ht hs hu
    cases hd with | fn h1 h2 hd =>
    rename_i cap' args' ds'
    unfold leaveX at hre
    have hcall := hcf f (args ++ cap) (some m) h n
    generalize hcre : cf f (args ++ cap) (some m) h n = re at hcall hre
    cases re with
    | no => cases hre
    | ok e1 up1 h1' n1 =>
      obtain ⟨hent, σ1, w1, cs1, fr1, f1, s1, n01, u1, u2, st1, lv1⟩ := hcall e1 up1 h1' n1 rfl σ w _ (mkF x ⟨tmps, ds'⟩ todo md :: cs) (mkF x ⟨tmps, ds'⟩ todo md :: cs) hs (h2.append h1)
        ⟨_, _, md, rfl, rfl, hm⟩
      cases up1 with
      | none => cases u2
      | some m1 =>
        obtain ⟨c0, r, md1, e2, e3, hm1⟩ := u1
        cases e2
        have hst := step_defer (P := P) (fr := mkF x ⟨tmps, { target := .fn (.func f) ⟨cap'⟩, args := ⟨args'⟩ } :: ds'⟩ todo md) (cs := cs) (w := w) (f := f) (args := ⟨args' ++ cap'⟩) (md_run hm) rfl rfl
          (by
            have e1 : (⟨args'⟩ ++ ⟨cap'⟩ : Array Value) = ⟨args' ++ cap'⟩ := by apply Array.ext'; simp
            simp only [invoke]; rw [e1]; exact hent _ _)
        have st2 := (Steps.one hst).trans st1
        subst e3
        cases e1 with
        | retd v =>
          obtain ⟨l1, l2, l3, fn1, v1, l4, l5, l6⟩ := lv1
          have hst3 := step_going_returned (P := P) (c := mkF x ⟨tmps, ds'⟩ todo md1) (cs := cs) l3 ⟨l1, l2, fn1, l4, l5⟩
          obtain ⟨σ', w', fr, q1, q2, q3, q4, q5, q6, q7⟩ := leave_ok hcf hfn hk (todo := todo) ds ds' _ _ σ1 _ n1 w1 e up' h' n' hre (settle_run hm1) (hd.mono f1.le) (ht.mono f1.le) s1 (hu.mono f1.le)
          exact ⟨σ', w', fr, f1.trans q1 n01, q2, Nat.le_trans n01 q3, q4, q5, (st2.trans (.one hst3)).trans q6, q7⟩
        | pand ch =>
          obtain ⟨ch', fn1, l1, l2, l3, l4, l5⟩ := lv1
          have hst3 := step_going_panicked (P := P) (w := w1) (c := mkF x ⟨tmps, ds'⟩ todo md1) (cs := cs) ⟨l1, l2, fn1, l4⟩
          obtain ⟨σ', w', fr, q1, q2, q3, q4, q5, q6, q7⟩ := leave_ok hcf hfn hk (todo := todo) ds ds' _ _ σ1 _ n1 w1 e up' h' n' hre (raised_run hm1 l5) (hd.mono f1.le) (ht.mono f1.le) s1 (hu.mono f1.le)
          exact ⟨σ', w', fr, f1.trans q1 n01, q2, Nat.le_trans n01 q3, q4, q5, (st2.trans (.one hst3)).trans q6, q7⟩

/-! ## Calls -/

theorem getD_app {pre l : List Value} {t : Nat} (h : t < pre.length) : (pre ++ l).getD t undef = pre.getD t undef := by
  rw [List.getD_eq_getElem?_getD, List.getD_eq_getElem?_getD, List.getElem?_append_left h]

theorem args_run {σ : Sg} : ∀ {vs : List AV} {vs' : List Value} (i : Nat) (tm : Tr AV) (pre : List Value) (m : Nat), VRs σ vs vs' → pre.length = i → (∀ t v, tm.at t = some v → t < i ∧ VR σ v (pre.getD t undef)) →
    ∀ t v, (setArgs i vs tm).at t = some v → VR σ v ((pre ++ vs' ++ List.replicate m undef).getD t undef)
  | [], [], i, tm, pre, m, _, hi, h, t, v, ht => by
    obtain ⟨h1, h2⟩ := h t v ht
    simp only [List.append_nil]
    rw [getD_app (by omega)]
    exact h2
  | [], _ :: _, _, _, _, _, hv, _, _, _, _, _ => by cases hv
  | _ :: _, [], _, _, _, _, hv, _, _, _, _, _ => by cases hv
  | v :: vs, v' :: vs', i, tm, pre, m, hv, hi, h, t, u, ht => by
    cases hv with | cons h1 h2 =>
    have := args_run (i + 1) (tm.set i v) (pre ++ [v']) m h2 (by simp [hi]) (fun t u htu => by
      rw [Tr.at_set] at htu
      split at htu
      · rename_i e
        cases htu
        subst e
        refine ⟨by omega, ?_⟩
        rw [List.getD_eq_getElem?_getD, List.getElem?_append_right (by omega)]
        simpa [hi] using h1
      · obtain ⟨q1, q2⟩ := h t u htu
        refine ⟨by omega, ?_⟩
        rw [getD_app (by omega)]
        exact q2) t u ht
    simpa using this

theorem enter_run {P : Program} {σ : Sg} {f : FuncId} {fn : Func} {c : Code} (hfn : P.funcs[f]? = some fn) (hb : fn.body = some c) {args : List AV} {args' : List Value} (ha : VRs σ args args') (kd : CallKind) :
    ∃ tmps, Frame.enter P f ⟨args'⟩ kd = mkF ⟨f, kd, none⟩ ⟨tmps, []⟩ [.code c] .run ∧ TmR σ (setArgs 0 args .lf) (args.length + (fn.ntmps - args.length)) tmps := by
  refine ⟨⟨args'⟩ ++ Array.replicate (fn.ntmps - args'.length) undef, by simp [Frame.enter, mkF, hfn, hb], ?_, ?_⟩
  · simp [ha.length]
  · intro t v ht
    have := args_run 0 .lf [] (fn.ntmps - args'.length) ha rfl (fun t v e => by rw [Tr.at_lf] at e; cases e) t v ht
    rw [Array.getD_eq_getD_getElem?]
    rw [List.getD_eq_getElem?_getD] at this
    have e : (⟨args'⟩ ++ Array.replicate (fn.ntmps - args'.length) undef : Array Value) = ⟨args' ++ List.replicate (fn.ntmps - args'.length) undef⟩ := by apply Array.ext'; simp
    rw [e]
    simpa using this

theorem body_fn {P : Program} {cf : CallF} {cx : CodeF} (hcf : CallOk P cf) (hcx : CodeOk P cx) (f : FuncId) (args : List AV) (up : Option AMd) (h : Hp) (n : Nat) (e : AEnd) (up' : Option AMd) (h' : Hp) (n' : Nat)
    (hre : bodyX P cf cx f args up h n = .ok e up' h' n') (σ : Sg) (w : World) (args' : List Value) (cs0 cs : List Frame) (hs : SR σ h n w) (ha : VRs σ args args') (hu : UpC σ up cs0 cs) :
    (∀ as W, (callFunc f as).run P W = .ok (.enter f as) W) ∧
    ∃ σ' w' cs' fr, Fr n σ w σ' w' ∧ SR σ' h' n' w' ∧ n ≤ n' ∧ UpC σ' up' cs0 cs' ∧ up'.isSome = up.isSome ∧
      Steps P (lone (Frame.enter P f ⟨args'⟩ (kdOf up)) cs w) (lone fr cs' w') ∧ Lv P σ' fr w' (kdOf up) e ∧ fr.fn = f := by
  unfold bodyX at hre
  split at hre
  · cases hre
  · rename_i fn c hlook
    obtain ⟨hfn, hb, hent⟩ := look_ok hlook
    refine ⟨hent, ?_⟩
    obtain ⟨tmps, hfr, htm⟩ := enter_run hfn hb ha (kdOf up)
    rw [hfr]
    have H : At σ h n w f none ⟨setArgs 0 args .lf, args.length + (fn.ntmps - args.length), [], up⟩ ⟨f, kdOf up, none⟩ ⟨tmps, []⟩ cs0 cs := ⟨hs, ⟨htm, .nil⟩, hu, rfl, rfl, rfl⟩
    have h1 := hcx f none c _ h n σ w _ cs0 cs _ [] H
    generalize hcre : cx f none c ⟨setArgs 0 args .lf, args.length + (fn.ntmps - args.length), [], up⟩ h n = rc at h1 hre
    cases rc with
    | no => cases hre
    | ok e1 a1 h1' n1 =>
      obtain ⟨σ1, w1, ca1, cs1, f1, n01, H1, ht1, u1, st1⟩ := h1
      have hkd : kdOf a1.up = kdOf up := by
        have : a1.up.isSome = up.isSome := u1
        cases hq : a1.up <;> cases up <;> simp_all [kdOf]
      have fin : ∀ (m : AMd) (md : FrameMode) (todo : List Item), MdR σ1 m md → Steps P (lone (mkF ⟨f, kdOf up, none⟩ ⟨tmps, []⟩ [.code c] .run) cs w) (lone (mkF ⟨f, kdOf up, none⟩ ca1 todo md) cs1 w1) →
          leaveX P cf fn a1.tm a1.up a1.df m h1' n1 = .ok e up' h' n' →
          ∃ σ' w' cs' fr, Fr n σ w σ' w' ∧ SR σ' h' n' w' ∧ n ≤ n' ∧ UpC σ' up' cs0 cs' ∧ up'.isSome = up.isSome ∧
            Steps P (lone (mkF ⟨f, kdOf up, none⟩ ⟨tmps, []⟩ [.code c] .run) cs w) (lone fr cs' w') ∧ Lv P σ' fr w' (kdOf up) e ∧ fr.fn = f := by
        intro m md todo hm hst hle
        obtain ⟨σ', w', fr, q1, q2, q3, q4, q5, q6, q7⟩ := leave_ok hcf (x := ⟨f, kdOf up, none⟩) (todo := todo) hfn hkd.symm a1.df ca1.defers m md σ1 h1' n1 w1 e up' h' n' hle hm H1.ac.df H1.ac.tm H1.sr H1.up
        rw [hkd] at q7
        exact ⟨σ', w', cs1, fr, f1.trans q1 n01, q2, Nat.le_trans n01 q3, q4, q5.trans u1, hst.trans q6, q7⟩
      cases e1 with
      | normal => exact fin .ret .returning [] .ret (st1.trans (.one (st_end rfl))) hre
      | ret => obtain ⟨todo, hst⟩ := st1; exact fin .ret .returning _ .ret (hst.trans (.one (st_ret rfl))) hre
      | panic ch => obtain ⟨ch', todo, hpe, hst⟩ := st1; exact fin (.pan ch) _ todo (.pan hpe) hst hre
      | exit id => cases hre
      | goto l => cases hre

theorem body_ok {P : Program} {cf : CallF} {cx : CodeF} (hcf : CallOk P cf) (hcx : CodeOk P cx) : CallOk P (bodyX P cf cx) := by
  intro f args up h n e up' h' n' hre σ w args' cs0 cs hs ha hu
  obtain ⟨h1, σ', w', cs', fr, q1, q2, q3, q4, q5, q6, q7, _⟩ := body_fn hcf hcx f args up h n e up' h' n' hre σ w args' cs0 cs hs ha hu
  exact ⟨h1, σ', w', cs', fr, q1, q2, q3, q4, q5, q6, q7⟩

/-- THE CALLS ARE WHAT THE EXECUTOR SAYS. -/
theorem call_ok {P : Program} {ib : Nat} {dx : CallF → RndF → Bool → List Oper → Ac → Hp → Nat → RC} (hib : IbOk P ib) (hdx : ∀ cf, CallOk P cf → DrawOk P (dx cf)) (K : Nat) : ∀ d, CallOk P (callX P ib dx K d)
  | 0 => by intro f args up h n e up' h' n' hre; cases hre
  | d + 1 => by
    have ih := call_ok hib hdx K d
    exact body_ok ih (code_ok hib ih (hdx _ ih) K)
end Go.Proofs.YtoiojhmfndmflaaGreatDoor.Rex

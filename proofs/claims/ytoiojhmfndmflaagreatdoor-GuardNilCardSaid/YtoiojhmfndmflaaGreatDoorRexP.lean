/-
  Rex, part P: one operation: what the executor tells is what the machine does.
-/
import Derived.Test.YtoiojhmfndmflaaGreatDoorRexO
namespace Go.Proofs.YtoiojhmfndmflaaGreatDoor.Rex
open Go

/-- The temporaries of ca, but for the one that d names, are ca's. -/
def putT (tmps : Array Value) (d : Option Tmp) (v : Value) : Array Value :=
  match d with
  | none => tmps
  | some d => tmps.setIfInBounds d v
theorem put_tmps (ca : Act) (d : Option Tmp) (v : Value) : (ca.put d v).tmps = putT ca.tmps d v := by cases d <;> rfl
def PutOf (ca : Act) (d : Option Tmp) (ca' : Act) : Prop := ∃ v', ca'.tmps = putT ca.tmps d v'

/-- What an operation's (or a region's) outcome says of the machine. -/
def RoR (P : Program) (σ : Sg) (n : Nat) (w : World) (fn : FuncId) (rnd : Option Nat) (a : Ac) (x : Cx) (cs0 : List Frame) (m : Machine) (next : Act → List Frame → World → Machine) (K : Act → Prop) : RO → Prop
  | .no => True
  | .ok a' h' n' => ∃ σ' w' ca' cs', Fr n σ w σ' w' ∧ n ≤ n' ∧ At σ' h' n' w' fn rnd a' x ca' cs0 cs' ∧ a'.nt = a.nt ∧ a'.up.isSome = a.up.isSome ∧ Steps P m (next ca' cs' w') ∧ K ca'
  | .pan ch a' h' n' => ∃ σ' w' ca' cs' ch' todo, Fr n σ w σ' w' ∧ n ≤ n' ∧ At σ' h' n' w' fn rnd a' x ca' cs0 cs' ∧ a'.nt = a.nt ∧ a'.up.isSome = a.up.isSome ∧ PeR σ' ch ch' ∧
      Steps P m (lone (mkF x ca' todo (.panicking ch')) cs' w')

section
variable {P : Program} {ib : Nat} {cf : CallF} {rf : RndF} {σ : Sg} {h : Hp} {n : Nat} {w : World} {fn : FuncId} {rnd : Option Nat} {a : Ac} {x : Cx} {ca : Act} {cs0 cs : List Frame}
  {ops : Array Oper} {i : Nat} {rest : List Nat} {o : Oper} {k : List Item}

theorem ro_put (H : At σ h n w fn rnd a x ca cs0 cs) {σ' : Sg} {h' : Hp} {n' : Nat} {w' : World} {v : AV} {v' : Value} (hf : Fr n σ w σ' w') (hn : n ≤ n') (hs : SR σ' h' n' w') (hv : VR σ' v v')
    {m : Machine} (hst : Steps P m (lone (mkF x (ca.put o.dst v') (.inRegion ops rest :: k) .run) cs w')) :
    RoR P σ n w fn rnd a x cs0 m (fun ca' cs' w' => lone (mkF x ca' (.inRegion ops rest :: k) .run) cs' w') (PutOf ca o.dst) (roPut a o.dst v h' n') := by
  unfold roPut
  split
  · trivial
  · rename_i a' hp
    obtain ⟨h1, h2, h3⟩ := put_ok (H.ac.mono hf.le) hp hv
    exact ⟨σ', w', _, cs, hf, hn, H.mono hf.le hs h1 (by rw [h2]; exact H.up.mono hf.le) (by rw [h2]), h3, by rw [h2], hst, v', put_tmps _ _ _⟩

theorem ro_end (H : At σ h n w fn rnd a x ca cs0 cs) (ho : ops[i]? = some o) {re : RE}
    (hre : ∀ e up h' n', re = .ok e up h' n' → ∃ σ' w', Fr n σ w σ' w' ∧ SR σ' h' n' w' ∧ n ≤ n' ∧ ∃ m1, Steps P (lone (mkF x ca (.inRegion ops (i :: rest) :: k) .run) cs w) m1 ∧
      EndTo P σ' m1 (mkF x ca (.inRegion ops (i :: rest) :: k) .run) cs w' e) :
    RoR P σ n w fn rnd a x cs0 (lone (mkF x ca (.inRegion ops (i :: rest) :: k) .run) cs w) (fun ca' cs' w' => lone (mkF x ca' (.inRegion ops rest :: k) .run) cs' w') (PutOf ca o.dst) (roEnd a o.dst re) := by
  cases re with
  | no => trivial
  | ok e up h' n' =>
    obtain ⟨σ', w', hf, hs, hn, m1, hst, hen⟩ := hre e up h' n' rfl
    cases e with
    | retd v =>
      obtain ⟨v', hv, hst2⟩ := hen
      have hfin := finish_mkF (x := x) (ca := ca) (k := k) (ops := ops) (i := i) (rest := rest) v'
      rw [ho] at hfin
      simp only [Option.bind_some] at hfin
      rw [hfin] at hst2
      exact ro_put H hf hn hs hv (hst.trans hst2)
    | pand ch =>
      obtain ⟨ch', hc, hst2⟩ := hen
      refine ⟨σ', w', ca, cs, ch', .inRegion ops (i :: rest) :: k, hf, hn, H.mono hf.le hs (H.ac.mono hf.le) (H.up.mono hf.le) rfl, rfl, rfl, hc, hst.trans ?_⟩
      have : (mkF x ca (.inRegion ops (i :: rest) :: k) .run).raise ch' = mkF x ca (.inRegion ops (i :: rest) :: k) (.panicking ch') := rfl
      rw [← this]; exact hst2

theorem pan_run {xo : Option AV} {ρ : Value} (hv : ∀ v, xo = some v → VR σ v ρ) (H : At σ h n w fn rnd a x ca cs0 cs) {m : Machine} {next : Act → List Frame → World → Machine} {K : Act → Prop}
    (hst : ∀ t v', ρ = .iface t v' → Steps P m (lone (mkF x ca (.inRegion ops (i :: rest) :: k) (.panicking [{ v := ρ, recovered := false }])) cs w)) :
    RoR P σ n w fn rnd a x cs0 m next K (panA xo a h n) := by
  unfold panA
  split
  · rename_i t v
    have := hv _ rfl
    cases this with | ifc hv' =>
    exact ⟨σ, w, ca, cs, _, _, Fr.refl _ _ _, Nat.le_refl _, H, rfl, rfl, .cons (.ifc hv') .nil, hst _ _ rfl⟩
  · trivial

theorem rnd_none (H : At σ h n w fn rnd a x ca cs0 cs) (hr : rnd.isSome = false) : x.rnd = none := by
  have := H.rd
  cases rnd with
  | none => exact this
  | some b => cases hr

theorem ctl_ok (hcf : CallOk P cf) (hrf : RndOk P rf) (H : At σ h n w fn rnd a x ca cs0 cs) (ho : ops[i]? = some o) (hw : Region.wanted o (yielded ops ca.tmps) = true) :
    RoR P σ n w fn rnd a x cs0 (lone (mkF x ca (.inRegion ops (i :: rest) :: k) .run) cs w) (fun ca' cs' w' => lone (mkF x ca' (.inRegion ops rest :: k) .run) cs' w') (PutOf ca o.dst) (ctlX cf rf rnd.isSome o a h n) := by
  have her := act_eval H.ac
  unfold ctlX
  split
  · -- calls
    rename_i c hop
    have hnd : x.rnd = none ∨ ∀ c, o.op ≠ .defer c := .inr fun c e => by rw [hop] at e; cases e
    obtain ⟨callee, args, argTypes⟩ := c
    dsimp only
    split
    · rename_i f
      split
      · -- of a function
        rename_i g first cap args' hfv hargs
        have vf := her _ _ hfv
        have va := evs_vr her hargs
        generalize hfe : ca.eval f = fv at vf
        cases vf with | fn v1 v2 =>
        rename_i first' cap'
        refine ro_end H ho fun e up h' n' hre => ?_
        have hall : VRs σ (first ++ args' ++ cap) (first' ++ args.toList.map ca.eval ++ cap') := (v1.append va).append v2
        obtain ⟨hcall, σ', w', cs', fr, q1, q2, q3, q4, q5, q6, q7⟩ := hcf g _ none h n e up h' n' hre σ w _ (mkF x ca (.inRegion ops (i :: rest) :: k) .run :: cs) _ H.sr hall rfl
        have hcs : cs' = mkF x ca (.inRegion ops (i :: rest) :: k) .run :: cs := by
          cases up with
          | none => exact q4
          | some m => cases q5
        subst hcs
        refine ⟨σ', w', q1, q2, q3, _, .one (st_enter (f := g) (args := ⟨first' ++ args.toList.map ca.eval ++ cap'⟩) (w' := w) ho hw hnd ?_), call_end q6 q7⟩
        have e1 : (⟨first'⟩ ++ args.map ca.eval ++ ⟨cap'⟩ : Array Value) = ⟨first' ++ args.toList.map ca.eval ++ cap'⟩ := by apply Array.ext'; simp
        rw [show execOp ca.eval o = (do let d ← resolve ca.eval ⟨.value f, args, argTypes⟩ o.type; invoke d.target d.args : Sem Next) from by unfold execOp; rw [hop]]
        simp only [resolve, hfe, Deferred.ofValue, Sem.run_bind, Sem.run_pure, Result.andThen_ok, invoke]
        rw [e1]; exact hcall _ _
      · -- of a round
        rename_i b args' hfv hargs
        have vf := her _ _ hfv
        have va := evs_vr her hargs
        generalize hfe : ca.eval f = fv at vf
        cases vf with | yfn hl =>
        rename_i l
        refine ro_end H ho fun e up h' n' hre => ?_
        obtain ⟨f', tmps, asg, body, hy, hgo⟩ := hrf b args' h n e up h' n' hre σ w _ l H.sr va hl
        obtain ⟨σ', w', q1, q2, q3, q4⟩ := hgo (mkF x ca (.inRegion ops (i :: rest) :: k) .run) cs
        refine ⟨σ', w', q1, q2, q3, _, .one (st_round ho hw hnd ?_), q4⟩
        have e1 : (#[] ++ args.map ca.eval : Array Value) = ⟨args.toList.map ca.eval⟩ := by apply Array.ext'; simp
        rw [show execOp ca.eval o = (do let d ← resolve ca.eval ⟨.value f, args, argTypes⟩ o.type; invoke d.target d.args : Sem Next) from by unfold execOp; rw [hop]]
        simp only [resolve, hfe, Deferred.ofValue, Sem.run_bind, Sem.run_pure, Result.andThen_ok, invoke]
        rw [e1]; exact hy
      · trivial
    · -- recover
      cases hrn : rnd.isSome
      · simp only [cond_false]
        have hxr := rnd_none H hrn
        have hrun : (execOp ca.eval o).run P w = .ok .recover w := by
          unfold execOp; rw [hop]; simp [resolve, invoke, builtin]
        cases hup : a.up with
        | none => trivial
        | some m =>
          have hk : x.kind = .deferred := by rw [H.kd, hup]; rfl
          have hu := H.up
          rw [hup] at hu
          obtain ⟨c0, r, md, rfl, rfl, hmd⟩ := hu
          have other : (∀ v older, m ≠ .pan (⟨v, false⟩ :: older)) → RoR P σ n w fn rnd a x (c0 :: r) (lone (mkF x ca (.inRegion ops (i :: rest) :: k) .run) ({ c0 with mode := md } :: r) w)
              (fun ca' cs' w' => lone (mkF x ca' (.inRegion ops rest :: k) .run) cs' w') (PutOf ca o.dst) (roPut a o.dst .nifc h n) := by
            intro hm
            refine ro_put H (Fr.refl _ _ _) (Nat.le_refl _) H.sr .nifc (.one (st_recover ho hw hxr hk hrun (.inr ⟨?_, rfl, rfl⟩)))
            cases hmd with
            | ret => rfl
            | pan hp =>
              cases hp with
              | nil => rfl
              | @cons v v' b _ _ hv ht =>
                cases b
                · exact (hm _ _ rfl).elim
                · rfl
          cases m with
          | ret => exact other (fun v older e => by cases e)
          | pan ch =>
            cases ch with
            | nil => exact other (fun v older e => by cases e)
            | cons p older =>
              obtain ⟨v, b⟩ := p
              cases b
              · cases hmd with | pan hp => cases hp with | @cons _ v' _ _ older' hv ht =>
                show RoR P σ n w fn rnd a x (c0 :: r) _ _ _ (roPut { a with up := some (.pan (⟨v, true⟩ :: older)) } o.dst v h n)
                have hst := st_recover (P := P) (rest := rest) (k := k) (cs := { c0 with mode := .panicking ({ v := v', recovered := false } :: older') } :: r) ho hw hxr hk hrun (v := v')
                  (cs' := { c0 with mode := .panicking ({ v := v', recovered := true } :: older') } :: r) (.inl rfl)
                have H2 : At σ h n w fn rnd { a with up := some (.pan (⟨v, true⟩ :: older)) } x ca (c0 :: r) ({ c0 with mode := .panicking ({ v := v', recovered := true } :: older') } :: r) :=
                  ⟨H.sr, ⟨H.ac.tm, H.ac.df⟩, ⟨c0, r, _, rfl, rfl, .pan (.cons hv ht)⟩, H.fn, H.rd, by rw [H.kd, hup]; rfl⟩
                have := ro_put (P := P) (o := o) (ops := ops) (rest := rest) (k := k) H2 (Fr.refl n σ w) (Nat.le_refl _) H.sr hv (.one hst)
                unfold roPut at this ⊢
                split at this
                · trivial
                · obtain ⟨σ', w', ca', cs', q1, q2, q3, q4, q5, q6⟩ := this
                  refine ⟨σ', w', ca', cs', q1, q2, q3, q4, ?_, q6⟩
                  rw [q5, hup]; rfl
              · exact other (fun v older e => by cases e)
      · trivial
    · -- panic
      split
      · rename_i y har
        have e2 : args = #[y] := by apply Array.ext'; simp [har]
        subst e2
        refine pan_run (ρ := ca.eval y) (fun v hv => her _ _ hv) H fun t v' hiv => .one (st_panic ho hw hnd ?_)
        unfold execOp; rw [hop]; simp [resolve, invoke, builtin, hiv, Instr.panic]
      · trivial
    · trivial
  · -- panic
    rename_i y hop
    have hnd : x.rnd = none ∨ ∀ c, o.op ≠ .defer c := .inr fun c e => by rw [hop] at e; cases e
    refine pan_run (ρ := ca.eval y) (fun v hv => her _ _ hv) H fun t v' hiv => .one (st_panic ho hw hnd ?_)
    unfold execOp; rw [hop]; simp [hiv, Instr.panic]
  · -- defer
    rename_i c hop
    cases hrn : rnd.isSome
    · simp only [cond_false]
      have hxr := rnd_none H hrn
      obtain ⟨callee, args, argTypes⟩ := c
      dsimp only
      split
      · rename_i f
        split
        · rename_i g first cap args' hfv hargs
          have vf := her _ _ hfv
          have va := evs_vr her hargs
          generalize hfe : ca.eval f = fv at vf
          cases vf with | fn v1 v2 =>
          rename_i first' cap'
          have e1 : (⟨first'⟩ ++ args.map ca.eval : Array Value) = ⟨first' ++ args.toList.map ca.eval⟩ := by apply Array.ext'; simp
          have hrun : (execOp ca.eval o).run P w = .ok (.defer { target := .fn (.func g) ⟨cap'⟩, args := ⟨first' ++ args.toList.map ca.eval⟩ }) w := by
            unfold execOp; rw [hop]
            simp only [resolve, hfe, Deferred.ofValue, Sem.run_bind, Sem.run_pure, Result.andThen_ok]
            rw [e1]
          have H2 : At σ h n w fn rnd { a with df := .fn g cap (first ++ args') :: a.df } x { ca with defers := { target := .fn (.func g) ⟨cap'⟩, args := ⟨first' ++ args.toList.map ca.eval⟩ } :: ca.defers } cs0 cs :=
            ⟨H.sr, ⟨H.ac.tm, .fn v2 (v1.append va) H.ac.df⟩, H.up, H.fn, H.rd, H.kd⟩
          exact ro_put (P := P) (o := o) (ops := ops) (rest := rest) (k := k) H2 (Fr.refl n σ w) (Nat.le_refl _) H.sr (.tup .nil) (.one (st_defer ho hw hxr hrun))
        · trivial
      · trivial
    · trivial
  · trivial

theorem op_ok (hib : IbOk P ib) (hcf : CallOk P cf) (hrf : RndOk P rf) (H : At σ h n w fn rnd a x ca cs0 cs) (ho : ops[i]? = some o) (hw : Region.wanted o (yielded ops ca.tmps) = true) :
    RoR P σ n w fn rnd a x cs0 (lone (mkF x ca (.inRegion ops (i :: rest) :: k) .run) cs w) (fun ca' cs' w' => lone (mkF x ca' (.inRegion ops rest :: k) .run) cs' w') (PutOf ca o.dst)
      (opX P ib cf rf rnd.isSome o a h n) := by
  have her := act_eval H.ac
  have nodefer : (∀ ev : Ev, pureOp P ev o.op = none → readOp P ev o.op h = none → allocOp P ev o.op = none → effOp P ib ev o.op h = none → False) → x.rnd = none ∨ ∀ c, o.op ≠ .defer c := by
    intro hno
    refine .inr fun c e => hno (evA a.tm) ?_ ?_ ?_ ?_ <;> (rw [e]; rfl)
  unfold opX
  split
  · rename_i v hv
    obtain ⟨v', hr, vv⟩ := pure_run her hv w
    exact ro_put H (Fr.refl _ _ _) (Nat.le_refl _) H.sr vv (.one (st_value ho hw (.inr fun c e => by rw [e] at hv; cases hv) (.inl hr)))
  · split
    · rename_i v hv
      obtain ⟨v', hr, vv⟩ := read_run H.sr her hv
      exact ro_put H (Fr.refl _ _ _) (Nat.le_refl _) H.sr vv (.one (st_value ho hw (.inr fun c e => by rw [e] at hv; cases hv) (.inl hr)))
    · split
      · rename_i y f hv
        obtain ⟨obj, L, N, v', hr, hfr⟩ := alloc_run (w := w) her hv
        have hun : ∀ g, σ n g = none := H.sr.nm n (Nat.le_refl _)
        obtain ⟨vv, hob⟩ := hfr n hun
        exact ro_put H (Fr.alloc hun (Nat.le_refl _) obj L N) (Nat.le_succ n) (H.sr.alloc hun obj ⟨0, y⟩ L N (n + 1) (by omega) (by omega) hob) vv
          (.one (st_value ho hw (.inr fun c e => by rw [e] at hv; cases hv) (.inl hr)))
      · split
        · rename_i r hv
          obtain ⟨σ', v', w', hr, hs, hf, vv⟩ := eff_run hib H.sr her (fun f => rfl) hv
          exact ro_put H hf (by cases r <;> simp [ApR.nx]) hs vv (.one (st_value ho hw (.inr fun c e => by rw [e] at hv; cases hv) hr))
        · exact ctl_ok hcf hrf H ho hw
end
end Go.Proofs.YtoiojhmfndmflaaGreatDoor.Rex

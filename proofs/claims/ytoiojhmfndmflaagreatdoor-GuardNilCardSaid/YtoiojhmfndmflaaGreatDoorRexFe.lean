/-
  Rex, part Fe: bodies and calls, for the kernel, with calls that have been run before: proved equal to the executor.
-/
import Derived.Test.YtoiojhmfndmflaaGreatDoorRexFc
import Derived.Test.YtoiojhmfndmflaaGreatDoorRexFd
namespace Go.Proofs.YtoiojhmfndmflaaGreatDoor.Rex
open Go

/-! ## Bodies -/

noncomputable def setArgsF : List AV → Nat → Tr AV → Tr AV :=
  List.rec (motive := fun _ => Nat → Tr AV → Tr AV) (fun _ tm => tm) (fun v _ ih i tm => ih (i + 1) (putA (pa i) v tm))
theorem setArgsF_eq : ∀ (l : List AV) (i : Nat) (tm : Tr AV), setArgsF l i tm = setArgs i l tm
  | [], _, _ => rfl
  | v :: l, i, tm => by
    show setArgsF l (i + 1) (putA (pa i) v tm) = setArgs (i + 1) l (tm.set i v)
    rw [setArgsF_eq l, putA_eq]
    rfl

noncomputable def resA1F : ResultVar → Program → Tr AV → Hp → Option AV :=
  ResultVar.rec (motive := fun _ => Program → Tr AV → Hp → Option AV) (fun t _ tm _ => getA (pa t) tm)
    (fun a t P tm h => Option.casesOn (motive := fun _ => Option AV) (getA (pa a) tm) none fun v => loadF P t v h)
theorem resA1F_eq (P : Program) (tm : Tr AV) (h : Hp) (r : ResultVar) : resA1F r P tm h = resA1 P tm h r := by
  cases r with
  | tmp t => exact getA_eq _ _
  | cell a t =>
    show (Option.casesOn (motive := fun _ => Option AV) (getA (pa a) tm) none fun v => loadF P t v h : Option AV) = (match tm.at a with | none => none | some v => loadA P t v h)
    rw [getA_eq]
    show (Option.casesOn (motive := fun _ => Option AV) (tm.at a) none fun v => loadF P t v h : Option AV) = _
    cases tm.at a with
    | none => rfl
    | some v => exact loadF_eq _ _ _ _
noncomputable def resAsF : List ResultVar → Program → Tr AV → Hp → Option (List AV) :=
  List.rec (motive := fun _ => Program → Tr AV → Hp → Option (List AV)) (fun _ _ _ => some [])
    (fun r _ ih P tm h => Option.casesOn (motive := fun _ => Option (List AV)) (resA1F r P tm h) none fun v =>
      Option.casesOn (motive := fun _ => Option (List AV)) (ih P tm h) none fun l => some (v :: l))
theorem resAsF_eq (P : Program) (tm : Tr AV) (h : Hp) : ∀ l : List ResultVar, resAsF l P tm h = resAs P tm h l
  | [] => rfl
  | r :: l => by
    have ih := resAsF_eq P tm h l
    show (Option.casesOn (motive := fun _ => Option (List AV)) (resA1F r P tm h) none fun v =>
      Option.casesOn (motive := fun _ => Option (List AV)) (resAsF l P tm h) none fun l => some (v :: l) : Option (List AV)) = _
    rw [ih, resA1F_eq]
    simp only [resAs]
    cases resA1 P tm h r with
    | none => rfl
    | some v => cases resAs P tm h l <;> rfl
noncomputable def tupF : List AV → AV :=
  fun l => List.casesOn (motive := fun _ => AV) l (.tup []) fun v t => List.casesOn (motive := fun _ => AV) t v fun u s => .tup (v :: u :: s)
noncomputable def retF : Option (List AV) → Option AMd → Hp → Nat → RE :=
  Option.rec (motive := fun _ => Option AMd → Hp → Nat → RE) (fun _ _ _ => .no) (fun l up h n => .ok (.retd (tupF l)) up h n)
noncomputable def leaveF : List ADf → Program → CallF → Func → Tr AV → Option AMd → Hp → Nat → RE :=
  fun df => List.casesOn (motive := fun _ => Program → CallF → Func → Tr AV → Option AMd → Hp → Nat → RE) df (fun P _ fn tm up h n => retF (resAsF fn.results.toList P tm h) up h n)
    (fun d ds P cf fn tm up h n => leaveX P cf fn tm up (d :: ds) .ret h n)
theorem leaveF_eq (P : Program) (cf : CallF) (fn : Func) (tm : Tr AV) (up : Option AMd) (df : List ADf) (h : Hp) (n : Nat) : leaveF df P cf fn tm up h n = leaveX P cf fn tm up df .ret h n := by
  cases df with
  | cons d ds => rfl
  | nil =>
    show retF (resAsF fn.results.toList P tm h) up h n = _
    rw [resAsF_eq]
    simp only [leaveX, resultsA]
    cases resAs P tm h fn.results.toList with
    | none => rfl
    | some l =>
      cases l with
      | nil => rfl
      | cons v l => cases l <;> rfl

noncomputable def endF : RC → Program → CallF → Func → RE :=
  RC.rec (motive := fun _ => Program → CallF → Func → RE) (fun _ _ _ => .no)
    (fun e a h n P cf fn => Ac.casesOn (motive := fun _ => RE) a fun tm _ df up => AEx.casesOn (motive := fun _ => RE) e (leaveF df P cf fn tm up h n) (fun _ => .no) (fun _ => .no)
      (leaveF df P cf fn tm up h n) (fun ch => leaveX P cf fn tm up df (.pan ch) h n))

/-- How many temporaries. -/
noncomputable def ntF (k : Nat) (fn : Func) : Nat := Bool.casesOn (motive := fun _ => Nat) (Nat.ble k fn.ntmps) (k + (fn.ntmps - k)) fn.ntmps
theorem ntF_eq (k : Nat) (fn : Func) : ntF k fn = k + (fn.ntmps - k) := by
  unfold ntF
  cases h : Nat.ble k fn.ntmps with
  | false => rfl
  | true =>
    have := Nat.le_of_ble_eq_true h
    show fn.ntmps = _
    omega

noncomputable def bodF : Option Func → Program → CallF → CodeF → FuncId → List AV → Option AMd → Hp → Nat → RE :=
  Option.rec (motive := fun _ => Program → CallF → CodeF → FuncId → List AV → Option AMd → Hp → Nat → RE) (fun _ _ _ _ _ _ _ _ => .no)
    (fun fn P cf cx f args up h n => Option.casesOn (motive := fun _ => RE) fn.body .no fun c =>
      endF (cx f none c ⟨setArgsF args 0 .lf, ntF args.length fn, [], up⟩ h n) P cf fn)
noncomputable def bodyF (P : Program) (cf : CallF) (cx : CodeF) (f : FuncId) (args : List AV) (up : Option AMd) (h : Hp) (n : Nat) : RE :=
  bodF (nthC P.funcs.toList f) P cf cx f args up h n

/-- No function with a body bears the model's own name. -/
def ngOk (P : Program) : Bool := P.funcs.toList.all fun fn => fn.body.isNone || !(fn.name == "runtime.NumGoroutine")

theorem bodyF_eq {P : Program} (hng : ngOk P = true) (cf : CallF) (cx : CodeF) : bodyF P cf cx = bodyX P cf cx := by
  funext f args up h n
  unfold bodyF bodyX look
  cases hf : nthC P.funcs.toList f with
  | none => rfl
  | some fn =>
    have hm : fn ∈ P.funcs.toList := by
      rw [nthC_eq] at hf
      exact List.mem_of_getElem? hf
    have hn := List.all_eq_true.1 hng fn hm
    show (Option.casesOn (motive := fun _ => RE) fn.body .no fun c => endF (cx f none c ⟨setArgsF args 0 .lf, ntF args.length fn, [], up⟩ h n) P cf fn : RE) = _
    cases hb : fn.body with
    | none =>
      simp only [hb]
      cases fn.name == "runtime.NumGoroutine" <;> rfl
    | some c =>
      rw [hb] at hn
      have hn : (fn.name == "runtime.NumGoroutine") = false := by
        cases hq : fn.name == "runtime.NumGoroutine" with
        | false => rfl
        | true => rw [hq] at hn; cases hn
      simp only [hb, hn, cond_false, setArgsF_eq, ntF_eq]
      generalize cx f none c ⟨setArgs 0 args .lf, args.length + (fn.ntmps - args.length), [], up⟩ h n = r
      cases r with
      | no => rfl
      | ok e a h n =>
        obtain ⟨tm, nt, df, up⟩ := a
        cases e with
        | normal => exact leaveF_eq ..
        | ret => exact leaveF_eq ..
        | _ => rfl

/-! ## Calls -/

noncomputable def orcF : List Orc → CallF → CallF :=
  List.rec (motive := fun _ => CallF → CallF) (fun cf => cf)
    (fun o _ ih cf f args up h n => Bool.casesOn (motive := fun _ => RE) (Nat.beq o.f f) (ih cf f args up h n) (orc1 o (ih cf) f args up h n))

theorem orcF_eq : ∀ (l : List Orc) (cf : CallF), orcF l cf = orcX l cf
  | [], _ => rfl
  | o :: l, cf => by
    have ih := orcF_eq l cf
    funext f args up h n
    show (Bool.casesOn (motive := fun _ => RE) (Nat.beq o.f f) (orcF l cf f args up h n) (orc1 o (orcF l cf) f args up h n) : RE) = orc1 o (orcX l cf) f args up h n
    rw [ih]
    cases hf : Nat.beq o.f f with
    | true => rfl
    | false =>
      cases up with
      | some m => rfl
      | none => simp only [orc1, Orc.hit, hf, Bool.false_and, cond_false]

noncomputable def callG (P : Program) (ib : Nat) (dx : CallF → RndF → Bool → List Oper → Ac → Hp → Nat → RC) (os : List Orc) (K d : Nat) : CallF :=
  Nat.rec (motive := fun _ => CallF) (fun _ _ _ _ _ => .no) (fun _ ih => bodyF P (orcF os ih) (codeF K ⟨P, ib, orcF os ih, dx (orcF os ih)⟩)) d

theorem callG_eq {P : Program} (hng : ngOk P = true) (ib : Nat) (dx : CallF → RndF → Bool → List Oper → Ac → Hp → Nat → RC) (os : List Orc) (K : Nat) : ∀ d, callG P ib dx os K d = callO P ib dx os K d
  | 0 => by funext f args up h n; rfl
  | d + 1 => by
    have ih := callG_eq hng ib dx os K d
    show bodyF P (orcF os (callG P ib dx os K d)) (codeF K ⟨P, ib, orcF os (callG P ib dx os K d), dx (orcF os (callG P ib dx os K d))⟩) = _
    rw [ih, orcF_eq, codeF_eq, bodyF_eq hng]
    rfl

/-- A call that is run, with calls that have been run before. -/
theorem Orc.ok_byF {P : Program} {ib : Nat} (hm : P.follows .mixedOrders = true) (hib : IbOk P ib) (hng : ngOk P = true) {os : List Orc} (ho : ∀ o ∈ os, Orc.Ok P o) {K d : Nat} {o : Orc}
    (h : (o.wf && o.came (callG P ib (drawX P ib) os K d o.f o.args none (over .lf o.pre) o.n)) = true) : o.Ok P := by
  rw [Bool.and_eq_true, callG_eq hng] at h
  exact Orc.ok_of hm hib ho h.1 h.2
end Go.Proofs.YtoiojhmfndmflaaGreatDoor.Rex

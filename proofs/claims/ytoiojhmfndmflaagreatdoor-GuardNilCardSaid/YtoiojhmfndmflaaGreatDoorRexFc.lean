/-
  Rex, part Fc: regions, code, calls, for the kernel: proved equal to the executor.
-/
import Derived.Test.YtoiojhmfndmflaaGreatDoorRexFb
namespace Go.Proofs.YtoiojhmfndmflaaGreatDoor.Rex
open Go

abbrev OpsK := Program → CxF → List Oper → Ac → Hp → Nat → RO

noncomputable def thenF : RO → OpsK → Program → CxF → List Oper → RO :=
  RO.rec (motive := fun _ => OpsK → Program → CxF → List Oper → RO) (fun _ _ _ _ => .no) (fun a h n k P C ops => k P C ops a h n) (fun ch a h n _ _ _ _ => .pan ch a h n)
theorem thenF_eq (r : RO) (k : OpsK) (P : Program) (C : CxF) (ops : List Oper) : thenF r k P C ops = (match r with | .ok a h n => k P C ops a h n | r => r) := by cases r <;> rfl

noncomputable def gdOpF (o : Oper) (k : OpsK) (P : Program) (C : CxF) (ops : List Oper) (a : Ac) (h : Hp) (n : Nat) : RO :=
  match gdA a.tm (guardOf ops o) with
  | none => .no
  | some false => match a.put o.dst (.tup []) with
    | none => .no
    | some a => k P C ops a h n
  | some true => thenF (opF o.op P C o a h n) k P C ops

noncomputable def guardF : Option (Nat × Bool) → Oper → OpsK → OpsK :=
  Option.rec (motive := fun _ => Oper → OpsK → OpsK) (fun o k P C ops a h n => thenF (opF o.op P C o a h n) k P C ops) (fun _ => gdOpF)

noncomputable def opsF : List Oper → OpsK :=
  List.rec (motive := fun _ => OpsK) (fun _ _ _ a h n => .ok a h n) (fun o _ ih P C ops a h n => guardF o.guard o ih P C ops a h n)

theorem opsF_eq (C : CxF) (ops : List Oper) : ∀ (l : List Oper) (a : Ac) (h : Hp) (n : Nat), opsF l C.P C ops a h n = opsX C.P C.ib C.cf C.rf C.rnd ops l a h n
  | [], _, _, _ => rfl
  | o :: l, a, h, n => by
    have ih : ∀ a h n, opsF l C.P C ops a h n = opsX C.P C.ib C.cf C.rf C.rnd ops l a h n := fun a h n => opsF_eq C ops l a h n
    unfold opsX
    show guardF o.guard o (opsF l) C.P C ops a h n = _
    cases hg : o.guard with
    | none =>
      show thenF (opF o.op C.P C o a h n) (opsF l) C.P C ops = _
      rw [thenF_eq, opF_eq]
      simp only [guardOf, hg, gdA]
      cases opX C.P C.ib C.cf C.rf C.rnd o a h n <;> first | rfl | exact ih _ _ _
    | some p =>
      show gdOpF o (opsF l) C.P C ops a h n = _
      unfold gdOpF
      cases gdA a.tm (guardOf ops o) with
      | none => rfl
      | some b =>
        cases b with
        | false =>
          cases a.put o.dst (.tup []) with
          | none => rfl
          | some a => exact ih _ _ _
        | true =>
          show thenF (opF o.op C.P C o a h n) (opsF l) C.P C ops = _
          rw [thenF_eq, opF_eq]
          cases opX C.P C.ib C.cf C.rf C.rnd o a h n <;> first | rfl | exact ih _ _ _

noncomputable def rcF : RO → RC := RO.rec (motive := fun _ => RC) .no (fun a h n => .ok .normal a h n) (fun ch a h n => .ok (.panic ch) a h n)
theorem rcF_eq (r : RO) : rcF r = rcOf r := by cases r <;> rfl

noncomputable def seqF : RC → (Ac → Hp → Nat → RC) → RC :=
  RC.rec (motive := fun _ => (Ac → Hp → Nat → RC) → RC) (fun _ => .no)
    (fun e a h n k => AEx.casesOn (motive := fun _ => RC) e (k a h n) (fun id => .ok (.exit id) a h n) (fun l => .ok (.goto l) a h n) (.ok .ret a h n) (fun ch => .ok (.panic ch) a h n))
theorem seqF_eq (r : RC) (k : Ac → Hp → Nat → RC) : seqF r k = (match r with | .ok .normal a h n => k a h n | r => r) := by
  cases r with
  | no => rfl
  | ok e a h n => cases e <;> rfl

noncomputable def blockF : RC → Nat → RC :=
  RC.rec (motive := fun _ => Nat → RC) (fun _ => .no) (fun e a h n id => AEx.casesOn (motive := fun _ => RC) e (.ok .normal a h n)
    (fun id' => Bool.casesOn (motive := fun _ => RC) (Nat.beq id' id) (.ok (.exit id') a h n) (.ok .normal a h n)) (fun l => .ok (.goto l) a h n) (.ok .ret a h n) (fun ch => .ok (.panic ch) a h n))
theorem blockF_eq (r : RC) (id : Nat) : blockF r id = (match r with | .ok (.exit id') a h n => bif Nat.beq id' id then .ok .normal a h n else .ok (.exit id') a h n | r => r) := by
  cases r with
  | no => rfl
  | ok e a h n =>
    cases e with
    | exit i => simp only [blockF]; cases Nat.beq i id <;> rfl
    | _ => rfl

/-- A condition's value. -/
def boolOf : AV → Option Bool
  | .bool b => some b
  | _ => none
/-- Which code is carried out. -/
noncomputable def pickF (v : Option AV) (x y : Code) (k : Code → RC) : RC :=
  Option.casesOn (motive := fun _ => RC) v .no fun v => Option.casesOn (motive := fun _ => RC) (boolOf v) .no fun b => k (Bool.casesOn (motive := fun _ => Code) b y x)

structure CyF where
  P : Program
  ib : Nat
  cf : CallF
  dx : RndF → Bool → List Oper → Ac → Hp → Nat → RC

abbrev CodeK := CyF → CodeF

noncomputable def alts : Code → Nat → CodeK → CyF → FuncId → Option Nat → Ac → Hp → Nat → RC := fun c =>
  Code.casesOn (motive := fun _ => Nat → CodeK → CyF → FuncId → Option Nat → Ac → Hp → Nat → RC) c
    (fun _ _ _ _ _ a h n => .ok .normal a h n)
    (fun _ ops draw _ ih Y _ rnd a h n => CyF.casesOn (motive := fun _ => RC) Y fun P ib cf dx =>
      Bool.casesOn (motive := fun _ => RC) draw (rcF (opsF ops.toList P ⟨P, ib, cf, rndX P (ih ⟨P, ib, cf, dx⟩), rnd.isSome⟩ ops.toList a h n)) (dx (rndX P (ih ⟨P, ib, cf, dx⟩)) rnd.isSome ops.toList a h n))
    (fun x y _ ih Y fn rnd a h n => seqF (ih Y fn rnd x a h n) (ih Y fn rnd y))
    (fun c x y _ ih Y fn rnd a h n => pickF (evF c a.tm) x y fun c => ih Y fn rnd c a h n)
    (fun id b _ ih Y fn rnd a h n => blockF (ih Y fn rnd b a h n) id)
    (fun b _ ih Y fn rnd a h n => seqF (ih Y fn rnd b a h n) (ih Y fn rnd (.loop b)))
    (fun g ps asg body _ _ Y fn rnd a h n => rangeX Y.cf fn rnd g ps asg body a h n)
    (fun id _ _ _ _ _ a h n => .ok (.exit id) a h n)
    (fun b f ih Y fn rnd a h n => scopeX (ih Y fn rnd) b f b a h n)
    (fun _ _ _ _ _ _ a h n => .ok .normal a h n)
    (fun l _ _ _ _ _ a h n => .ok (.goto l) a h n)
    (fun _ _ _ _ _ a h n => .ok .ret a h n)
    (fun _ _ _ _ _ _ _ _ _ => .no)

noncomputable def codeF : Nat → CodeK :=
  Nat.rec (motive := fun _ => CodeK) (fun _ _ _ _ _ _ _ => .no) (fun f ih Y fn rnd c a h n => alts c f ih Y fn rnd a h n)

theorem codeF_eq (Y : CyF) : ∀ f, codeF f Y = codeX Y.P Y.ib Y.cf Y.dx f
  | 0 => by funext fn rnd c a h n; rfl
  | f + 1 => by
    have ih := codeF_eq Y f
    funext fn rnd c a h n
    unfold codeX
    show alts c f (codeF f) Y fn rnd a h n = _
    cases c with
    | region id ops draw =>
      cases draw with
      | true => show Y.dx (rndX Y.P (codeF f Y)) _ _ _ _ _ = _; rw [ih]; rfl
      | false => show rcF (opsF ops.toList Y.P ⟨Y.P, Y.ib, Y.cf, rndX Y.P (codeF f Y), rnd.isSome⟩ ops.toList a h n) = _; rw [ih, rcF_eq]; exact congrArg rcOf (opsF_eq ⟨Y.P, Y.ib, Y.cf, rndX Y.P (codeX Y.P Y.ib Y.cf Y.dx f), rnd.isSome⟩ ops.toList ops.toList a h n)
    | seq x y => show seqF (codeF f Y fn rnd x a h n) (codeF f Y fn rnd y) = _; rw [ih]; exact seqF_eq _ _
    | cond c x y =>
      show pickF (evF c a.tm) x y (fun c => codeF f Y fn rnd c a h n) = _
      rw [ih, evF_eq]
      simp only
      generalize evA a.tm c = v
      cases v with
      | none => rfl
      | some v =>
        cases v with
        | bool b => cases b <;> rfl
        | _ => rfl
    | block id b => show blockF (codeF f Y fn rnd b a h n) id = _; rw [ih]; exact blockF_eq _ _
    | loop b => show seqF (codeF f Y fn rnd b a h n) (codeF f Y fn rnd (.loop b)) = _; rw [ih]; exact seqF_eq _ _
    | scope b => show scopeX (codeF f Y fn rnd) b f b a h n = _; rw [ih]
    | _ => rfl

noncomputable def callF (P : Program) (ib : Nat) (dx : CallF → RndF → Bool → List Oper → Ac → Hp → Nat → RC) (K d : Nat) : CallF :=
  Nat.rec (motive := fun _ => CallF) (fun _ _ _ _ _ => .no) (fun _ ih => bodyX P ih (codeF K ⟨P, ib, ih, dx ih⟩)) d

theorem callF_eq (P : Program) (ib : Nat) (dx : CallF → RndF → Bool → List Oper → Ac → Hp → Nat → RC) (K : Nat) : ∀ d, callF P ib dx K d = callX P ib dx K d
  | 0 => by funext f args up h n; rfl
  | d + 1 => by
    have ih := callF_eq P ib dx K d
    show bodyX P (callF P ib dx K d) (codeF K ⟨P, ib, callF P ib dx K d, dx (callF P ib dx K d)⟩) = _
    rw [ih, codeF_eq]
    rfl
end Go.Proofs.YtoiojhmfndmflaaGreatDoor.Rex

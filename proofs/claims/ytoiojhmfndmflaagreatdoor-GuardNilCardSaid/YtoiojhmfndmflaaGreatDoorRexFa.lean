/-
  Rex, part Fa: the tries, for the kernel: by recursors, with closed branches. (This text is printed by genFa.py.)
-/
import Derived.Test.YtoiojhmfndmflaaGreatDoorRexZd
namespace Go.Proofs.YtoiojhmfndmflaaGreatDoor.Rex
open Go

noncomputable def getA : Pa → Tr AV → Option AV :=
  Pa.rec (motive := fun _ => Tr AV → Option AV)
    (fun t => Tr.casesOn (motive := fun _ => Option AV) t none (fun v _ _ _ _ _ _ _ _ => v))
    (fun _ ih t => Tr.casesOn (motive := fun _ => Option AV) t none (fun _ x _ _ _ _ _ _ _ => ih x))
    (fun _ ih t => Tr.casesOn (motive := fun _ => Option AV) t none (fun _ _ x _ _ _ _ _ _ => ih x))
    (fun _ ih t => Tr.casesOn (motive := fun _ => Option AV) t none (fun _ _ _ x _ _ _ _ _ => ih x))
    (fun _ ih t => Tr.casesOn (motive := fun _ => Option AV) t none (fun _ _ _ _ x _ _ _ _ => ih x))
    (fun _ ih t => Tr.casesOn (motive := fun _ => Option AV) t none (fun _ _ _ _ _ x _ _ _ => ih x))
    (fun _ ih t => Tr.casesOn (motive := fun _ => Option AV) t none (fun _ _ _ _ _ _ x _ _ => ih x))
    (fun _ ih t => Tr.casesOn (motive := fun _ => Option AV) t none (fun _ _ _ _ _ _ _ x _ => ih x))
    (fun _ ih t => Tr.casesOn (motive := fun _ => Option AV) t none (fun _ _ _ _ _ _ _ _ x => ih x))
noncomputable def putA : Pa → AV → Tr AV → Tr AV :=
  Pa.rec (motive := fun _ => AV → Tr AV → Tr AV)
    (fun x t => Tr.casesOn (motive := fun _ => Tr AV) t (.nd (some x) .lf .lf .lf .lf .lf .lf .lf .lf) (fun _ a b c d e f g h => .nd (some x) a b c d e f g h))
    (fun _ ih x t => Tr.casesOn (motive := fun _ => Tr AV) t (.nd none (ih x .lf) .lf .lf .lf .lf .lf .lf .lf) (fun v a b c d e f g h => .nd v (ih x a) b c d e f g h))
    (fun _ ih x t => Tr.casesOn (motive := fun _ => Tr AV) t (.nd none .lf (ih x .lf) .lf .lf .lf .lf .lf .lf) (fun v a b c d e f g h => .nd v a (ih x b) c d e f g h))
    (fun _ ih x t => Tr.casesOn (motive := fun _ => Tr AV) t (.nd none .lf .lf (ih x .lf) .lf .lf .lf .lf .lf) (fun v a b c d e f g h => .nd v a b (ih x c) d e f g h))
    (fun _ ih x t => Tr.casesOn (motive := fun _ => Tr AV) t (.nd none .lf .lf .lf (ih x .lf) .lf .lf .lf .lf) (fun v a b c d e f g h => .nd v a b c (ih x d) e f g h))
    (fun _ ih x t => Tr.casesOn (motive := fun _ => Tr AV) t (.nd none .lf .lf .lf .lf (ih x .lf) .lf .lf .lf) (fun v a b c d e f g h => .nd v a b c d (ih x e) f g h))
    (fun _ ih x t => Tr.casesOn (motive := fun _ => Tr AV) t (.nd none .lf .lf .lf .lf .lf (ih x .lf) .lf .lf) (fun v a b c d e f g h => .nd v a b c d e (ih x f) g h))
    (fun _ ih x t => Tr.casesOn (motive := fun _ => Tr AV) t (.nd none .lf .lf .lf .lf .lf .lf (ih x .lf) .lf) (fun v a b c d e f g h => .nd v a b c d e f (ih x g) h))
    (fun _ ih x t => Tr.casesOn (motive := fun _ => Tr AV) t (.nd none .lf .lf .lf .lf .lf .lf .lf (ih x .lf)) (fun v a b c d e f g h => .nd v a b c d e f g (ih x h)))

theorem getA_eq (p : Pa) : ∀ t : Tr AV, getA p t = Tr.get p t := by
  induction p with
  | e => intro t; cases t <;> rfl
  | _ p ih => intro t; cases t with
    | lf => rfl
    | nd => exact ih _
theorem putA_eq (x : AV) (p : Pa) : ∀ t : Tr AV, putA p x t = Tr.put (some x) p t := by
  induction p with
  | e => intro t; cases t <;> rfl
  | d0 p ih => intro t; cases t <;> exact congrArg (Tr.nd _ · _ _ _ _ _ _ _) (ih _)
  | d1 p ih => intro t; cases t <;> exact congrArg (Tr.nd _ _ · _ _ _ _ _ _) (ih _)
  | d2 p ih => intro t; cases t <;> exact congrArg (Tr.nd _ _ _ · _ _ _ _ _) (ih _)
  | d3 p ih => intro t; cases t <;> exact congrArg (Tr.nd _ _ _ _ · _ _ _ _) (ih _)
  | d4 p ih => intro t; cases t <;> exact congrArg (Tr.nd _ _ _ _ _ · _ _ _) (ih _)
  | d5 p ih => intro t; cases t <;> exact congrArg (Tr.nd _ _ _ _ _ _ · _ _) (ih _)
  | d6 p ih => intro t; cases t <;> exact congrArg (Tr.nd _ _ _ _ _ _ _ · _) (ih _)
  | d7 p ih => intro t; cases t <;> exact congrArg (Tr.nd _ _ _ _ _ _ _ _ ·) (ih _)

noncomputable def getB : Pa → Tr Bk → Option Bk :=
  Pa.rec (motive := fun _ => Tr Bk → Option Bk)
    (fun t => Tr.casesOn (motive := fun _ => Option Bk) t none (fun v _ _ _ _ _ _ _ _ => v))
    (fun _ ih t => Tr.casesOn (motive := fun _ => Option Bk) t none (fun _ x _ _ _ _ _ _ _ => ih x))
    (fun _ ih t => Tr.casesOn (motive := fun _ => Option Bk) t none (fun _ _ x _ _ _ _ _ _ => ih x))
    (fun _ ih t => Tr.casesOn (motive := fun _ => Option Bk) t none (fun _ _ _ x _ _ _ _ _ => ih x))
    (fun _ ih t => Tr.casesOn (motive := fun _ => Option Bk) t none (fun _ _ _ _ x _ _ _ _ => ih x))
    (fun _ ih t => Tr.casesOn (motive := fun _ => Option Bk) t none (fun _ _ _ _ _ x _ _ _ => ih x))
    (fun _ ih t => Tr.casesOn (motive := fun _ => Option Bk) t none (fun _ _ _ _ _ _ x _ _ => ih x))
    (fun _ ih t => Tr.casesOn (motive := fun _ => Option Bk) t none (fun _ _ _ _ _ _ _ x _ => ih x))
    (fun _ ih t => Tr.casesOn (motive := fun _ => Option Bk) t none (fun _ _ _ _ _ _ _ _ x => ih x))
noncomputable def putB : Pa → Bk → Tr Bk → Tr Bk :=
  Pa.rec (motive := fun _ => Bk → Tr Bk → Tr Bk)
    (fun x t => Tr.casesOn (motive := fun _ => Tr Bk) t (.nd (some x) .lf .lf .lf .lf .lf .lf .lf .lf) (fun _ a b c d e f g h => .nd (some x) a b c d e f g h))
    (fun _ ih x t => Tr.casesOn (motive := fun _ => Tr Bk) t (.nd none (ih x .lf) .lf .lf .lf .lf .lf .lf .lf) (fun v a b c d e f g h => .nd v (ih x a) b c d e f g h))
    (fun _ ih x t => Tr.casesOn (motive := fun _ => Tr Bk) t (.nd none .lf (ih x .lf) .lf .lf .lf .lf .lf .lf) (fun v a b c d e f g h => .nd v a (ih x b) c d e f g h))
    (fun _ ih x t => Tr.casesOn (motive := fun _ => Tr Bk) t (.nd none .lf .lf (ih x .lf) .lf .lf .lf .lf .lf) (fun v a b c d e f g h => .nd v a b (ih x c) d e f g h))
    (fun _ ih x t => Tr.casesOn (motive := fun _ => Tr Bk) t (.nd none .lf .lf .lf (ih x .lf) .lf .lf .lf .lf) (fun v a b c d e f g h => .nd v a b c (ih x d) e f g h))
    (fun _ ih x t => Tr.casesOn (motive := fun _ => Tr Bk) t (.nd none .lf .lf .lf .lf (ih x .lf) .lf .lf .lf) (fun v a b c d e f g h => .nd v a b c d (ih x e) f g h))
    (fun _ ih x t => Tr.casesOn (motive := fun _ => Tr Bk) t (.nd none .lf .lf .lf .lf .lf (ih x .lf) .lf .lf) (fun v a b c d e f g h => .nd v a b c d e (ih x f) g h))
    (fun _ ih x t => Tr.casesOn (motive := fun _ => Tr Bk) t (.nd none .lf .lf .lf .lf .lf .lf (ih x .lf) .lf) (fun v a b c d e f g h => .nd v a b c d e f (ih x g) h))
    (fun _ ih x t => Tr.casesOn (motive := fun _ => Tr Bk) t (.nd none .lf .lf .lf .lf .lf .lf .lf (ih x .lf)) (fun v a b c d e f g h => .nd v a b c d e f g (ih x h)))

theorem getB_eq (p : Pa) : ∀ t : Tr Bk, getB p t = Tr.get p t := by
  induction p with
  | e => intro t; cases t <;> rfl
  | _ p ih => intro t; cases t with
    | lf => rfl
    | nd => exact ih _
theorem putB_eq (x : Bk) (p : Pa) : ∀ t : Tr Bk, putB p x t = Tr.put (some x) p t := by
  induction p with
  | e => intro t; cases t <;> rfl
  | d0 p ih => intro t; cases t <;> exact congrArg (Tr.nd _ · _ _ _ _ _ _ _) (ih _)
  | d1 p ih => intro t; cases t <;> exact congrArg (Tr.nd _ _ · _ _ _ _ _ _) (ih _)
  | d2 p ih => intro t; cases t <;> exact congrArg (Tr.nd _ _ _ · _ _ _ _ _) (ih _)
  | d3 p ih => intro t; cases t <;> exact congrArg (Tr.nd _ _ _ _ · _ _ _ _) (ih _)
  | d4 p ih => intro t; cases t <;> exact congrArg (Tr.nd _ _ _ _ _ · _ _ _) (ih _)
  | d5 p ih => intro t; cases t <;> exact congrArg (Tr.nd _ _ _ _ _ _ · _ _) (ih _)
  | d6 p ih => intro t; cases t <;> exact congrArg (Tr.nd _ _ _ _ _ _ _ · _) (ih _)
  | d7 p ih => intro t; cases t <;> exact congrArg (Tr.nd _ _ _ _ _ _ _ _ ·) (ih _)

end Go.Proofs.YtoiojhmfndmflaaGreatDoor.Rex

/-
  Rex, part Cl: which functions are reached from one, for the kernel: proved equal to the model's list.
-/
import GoSem.ClaimFn
import GoSem.ClaimDataLaid
import GoSem.ClaimGoes
import GoSem.ClaimJoined
import Derived.Test.YtoiojhmfndmflaaGreatDoorRexFa
namespace Go.Proofs.YtoiojhmfndmflaaGreatDoor.Rex
open Go

noncomputable def leadsF (P : Program) (f : FuncId) : List FuncId := (nthC P.funcs.toList f).elim [] P.leadsTo
theorem leadsF_eq (P : Program) (f : FuncId) : leadsF P f = (P.funcs[f]?).elim [] P.leadsTo := by
  unfold leadsF
  rw [nthC_eq, Array.getElem?_toList]

noncomputable def clF (P : Program) : Nat → List FuncId → List FuncId → Tr AV → List FuncId :=
  Nat.rec (motive := fun _ => List FuncId → List FuncId → Tr AV → List FuncId) (fun _ seen _ => seen.reverse)
    (fun _ ih todo seen S => List.casesOn (motive := fun _ => List FuncId) todo seen.reverse fun f todo =>
      Option.casesOn (motive := fun _ => List FuncId) (getA (pa f) S) (ih (leadsF P f ++ todo) (f :: seen) (putA (pa f) .nfn S)) fun _ => ih todo seen S)

theorem clF_eq (P : Program) : ∀ (n : Nat) (todo seen : List FuncId) (S : Tr AV), (∀ g, (S.at g).isSome = seen.contains g) → clF P n todo seen S = P.closureVia n todo seen
  | 0, todo, seen, S, _ => by cases todo <;> rfl
  | n + 1, [], seen, S, _ => rfl
  | n + 1, f :: todo, seen, S, h => by
    show (Option.casesOn (motive := fun _ => List FuncId) (getA (pa f) S) (clF P n (leadsF P f ++ todo) (f :: seen) (putA (pa f) .nfn S)) fun _ => clF P n todo seen S : List FuncId) = _
    unfold Program.closureVia
    rw [getA_eq]
    have hf := h f
    show (Option.casesOn (motive := fun _ => List FuncId) (S.at f) (clF P n (leadsF P f ++ todo) (f :: seen) (putA (pa f) .nfn S)) fun _ => clF P n todo seen S : List FuncId) = _
    cases hs : S.at f with
    | some v =>
      rw [hs] at hf
      rw [← hf]
      exact clF_eq P n todo seen S h
    | none =>
      rw [hs] at hf
      rw [← hf, leadsF_eq, putA_eq]
      refine clF_eq P n _ _ _ fun g => ?_
      show ((S.set f .nfn).at g).isSome = _
      rw [Tr.at_set, List.contains_cons]
      by_cases hg : g = f
      · subst hg; simp
      · rw [if_neg hg, h g]
        have : (g == f) = false := by simpa using hg
        rw [this, Bool.false_or]

theorem closure_of {P : Program} {f : FuncId} {l : List FuncId} (h : clF P (1 + (P.funcs.toList.map fun g => (P.leadsTo g).length + 1).sum) [f] [] .lf = l) : P.closure f = l := by
  unfold Program.closure
  rw [← h]
  exact (clF_eq P _ _ _ _ fun g => by rw [Tr.at_lf]; rfl).symm

theorem inPlace_of {P : Program} {f : FuncId} {l : List FuncId} {r : List String} (h : P.closure f = l)
    (hr : (l.filterMap fun g => (nthC P.funcs.toList g).bind fun fn => if fn.ours || fn.body.isNone || fn.name == "runtime.NumGoroutine" then some fn.name else none) = r) : P.inPlace f = r := by
  unfold Program.inPlace
  rw [h, ← hr]
  simp only [nthC_eq, Array.getElem?_toList]

theorem unfollowed_of {P : Program} {f : FuncId} {l : List FuncId} {r : Bool} (h : P.closure f = l)
    (hr : (l.any fun g => (nthC P.funcs.toList g).any fun fn => match fn.body with | some c => c.unfollowed | none => entryCalls fn) = r) : P.unfollowed f = r := by
  unfold Program.unfollowed
  rw [h, ← hr]
  simp only [nthC_eq, Array.getElem?_toList]
  rfl

theorem recurses_of {P : Program} {f : FuncId} (h : P.unfollowed f = true) : P.recurses f = true := by
  unfold Program.recurses
  rw [h, Bool.true_or]

theorem varsNamed_of {P : Program} {f : FuncId} {l : List FuncId} {r : List String} (h : P.closure f = l)
    (hr : ((((l.flatMap fun g => ((nthC P.funcs.toList g).bind (·.body)).elim [] Code.globalsNamed).eraseDups).filterMap (fun g => (P.globals[g]?).map (·.name)) ++
      l.filterMap fun g => (nthC P.funcs.toList g).bind fun fn => if fn.body.isNone then entryReads.lookup fn.name else none).eraseDups) = r) : P.varsNamed f = r := by
  unfold Program.varsNamed
  rw [h, ← hr]
  simp only [nthC_eq, Array.getElem?_toList]
end Go.Proofs.YtoiojhmfndmflaaGreatDoor.Rex

namespace Go.Proofs.YtoiojhmfndmflaaGreatDoor.Rex
open Go

/-! ## Is what the program lays sound? For the kernel: the types by the quick list -/

theorem info_fun (P : Program) : (fun t => P.info? t) = inf P := funext fun t => (inf_eq P t).symm

noncomputable def cellsQ : { g : Program → Nat → Nat // ∀ P t, P.cellsOf t = g P t } :=
  ⟨_, fun P t => by unfold Program.cellsOf; rw [← inf_eq]⟩
noncomputable def isVarQ : { g : Program → Nat → Bool // ∀ P t, isVar P t = g P t } :=
  ⟨_, fun P t => by unfold isVar; rw [← und_eq]⟩
noncomputable def rowFineQ : { g : Program → Nat → Bool // ∀ P t, rowFine P t = g P t } :=
  ⟨_, fun P t => by unfold rowFine; simp only [isVarQ.2, cellsQ.2, ← und_eq]; exact rfl⟩

theorem laidOut_of {P : Program} (h1 : (List.range P.types.size).all (rowFineQ.1 P) = true) (h2 : P.globals.all (fun g => decide (g.type < P.types.size)) = true)
    (h3 : P.funcs.toList.all (fun f => f.params.all fun t => decide (t < P.types.size)) = true) : laidOutB P = true := by
  rw [Array.all_toList] at h3
  unfold laidOutB
  rw [h2, h3, Bool.and_true, Bool.and_true, ← h1]
  exact congrArg (List.all _) (funext (rowFineQ.2 P))
end Go.Proofs.YtoiojhmfndmflaaGreatDoor.Rex

namespace Go.Proofs.YtoiojhmfndmflaaGreatDoor.Rex
open Go

/-! ## No goroutine is started -/

theorem goes_none {P : Program} (h : P.funcs.toList.any Func.goes = false) (f : FuncId) : P.goes f = false := by
  rw [Array.any_toList] at h
  have h1 : ((P.closure f).any fun g => (P.funcs[g]?).any Func.goes) = false := by
    rw [List.any_eq_false]
    intro g _
    cases hg : P.funcs[g]? with
    | none => simp
    | some fn =>
      have hm : fn ∈ P.funcs := Array.mem_of_getElem? hg
      rw [Array.any_eq_false'] at h
      simpa using h fn hm
  unfold Program.goes
  rw [h1, h, Bool.and_false, Bool.or_false]

theorem goesBy_none {P : Program} {c : OpenClaim} (hst : c.start = .entering) (h : P.funcs.toList.any Func.goes = false) : false = c.goesBy P := by
  unfold OpenClaim.goesBy Program.goesAt Program.goesFrom
  rw [hst]
  cases P.funcNamed c.func with
  | none => rfl
  | some f => simp [goes_none h f]

theorem funcNamed_of {P : Program} {name : String} {f : FuncId} (h : ((List.range P.funcs.size).filter fun i => (nthC P.funcs.toList i).any (·.name == name)) = [f]) : P.funcNamed name = some f := by
  simp only [nthC_eq, Array.getElem?_toList] at h
  unfold Program.funcNamed
  rw [h]
end Go.Proofs.YtoiojhmfndmflaaGreatDoor.Rex

namespace Go.Proofs.YtoiojhmfndmflaaGreatDoor.Rex
open Go

/-! ## Three looks over the whole program, by lists -/

noncomputable def mapsRowedQ : { g : Program → Bool // ∀ P, mapsRowed P = g P } :=
  ⟨_, fun P => by unfold mapsRowed; simp only [← und_eq]; exact rfl⟩
noncomputable def stopsHeardQ : { g : Program → Bool // ∀ P : Program, P.stopsHeard = g P } :=
  ⟨_, fun P => by unfold Program.stopsHeard; rw [← Array.all_toList]⟩
noncomputable def mayEnterQ : { g : Program → Bool // ∀ P : Program, P.mayEnter = g P } :=
  ⟨_, fun P => by unfold Program.mayEnter Program.laysLater; simp only [← Array.any_toList]; exact rfl⟩
end Go.Proofs.YtoiojhmfndmflaaGreatDoor.Rex

/-
  Rex, part Cw: the world in which listed variables hold what a row tells, for the kernel: types by their names through the quick list.
-/
import Derived.Lay
import Derived.Test.YtoiojhmfndmflaaGreatDoorRexCl
namespace Go.Proofs.YtoiojhmfndmflaaGreatDoor.Rex
open Go

noncomputable def tnQ : { g : Program → TypeId → Option String // ∀ P u, P.typeName? 3 u = g P u } :=
  ⟨_, fun P u => by simp only [Program.typeName?, ← inf_eq]; exact rfl⟩

theorem find_of {P : Program} {name : String} {u : TypeId} (h : ((List.range P.types.size).find? fun u => tnQ.1 P u == some name) = some u) :
    ((List.range P.types.size).find? fun u => P.typeName? 3 u == some name) = some u := by
  rw [← h]
  simp only [tnQ.2]

noncomputable def layIfQ : { g : Program → TypeId → Nat → TypeId → DataW Unit → Option (List Value × List Obj) // ∀ P t n name d u,
    ((List.range P.types.size).find? fun u => P.typeName? 3 u == some name) = some u → DataW.lay P t n (.iface name d) = g P t n u d } :=
  ⟨_, fun P t n name d u h => by simp only [DataW.lay, h]; exact rfl⟩

/-- Seven listed variables, the fifth and the sixth of them interfaces over one type. -/
noncomputable def layLQ : { g : Program → Nat → TypeId → String → String → String → String → String → String → String → DataW Unit → DataW Unit → DataW Unit → DataW Unit → DataW Unit → DataW Unit → DataW Unit →
      Option (List (Nat × List Value) × List Obj) // ∀ P n u m1 m2 m3 m4 m5 m6 m7 d1 d2 d3 d4 d5 d6 d7 name, ((List.range P.types.size).find? fun u => P.typeName? 3 u == some name) = some u →
      Lay.layList P n [(m1, d1), (m2, d2), (m3, d3), (m4, d4), (m5, .iface name d5), (m6, .iface name d6), (m7, d7)] = g P n u m1 m2 m3 m4 m5 m6 m7 d1 d2 d3 d4 d5 d6 d7 } :=
  ⟨_, by
    intro P n u m1 m2 m3 m4 m5 m6 m7 d1 d2 d3 d4 d5 d6 d7 name h
    simp only [Lay.layList, layIfQ.2 _ _ _ _ _ _ h]
    exact rfl⟩

noncomputable def laidAllQ : { g : Program → Os → (Nat → Option (List (Nat × List Value) × List Obj)) → World // ∀ P os laid y, (∀ n, Lay.layList P n laid = y n) → World.laidAll P os laid = g P os y } :=
  ⟨_, by
    intro P os laid y h
    unfold World.laidAll World.layVars
    rw [h]⟩

noncomputable def fitsQ : { g : Program → World → (Nat → Option (List (Nat × List Value) × List Obj)) → List Nat → Bool // ∀ P w laid y B, (∀ n, Lay.layList P n laid = y n) → World.layFits P w laid B = g P w y B } :=
  ⟨_, by
    intro P w laid y B h
    unfold World.layFits
    rw [h]⟩

noncomputable def ifacesQ : { g : Program → World → (Nat → Option (List (Nat × List Value) × List Obj)) → World → Bool // ∀ P w laid y w', (∀ n, Lay.layList P n laid = y n) → World.layIfaces P w laid w' = g P w y w' } :=
  ⟨_, by
    intro P w laid y w' h
    unfold World.layIfaces
    rw [h]⟩
end Go.Proofs.YtoiojhmfndmflaaGreatDoor.Rex

/-
  loupelaw23.GuardNil returns true for every argument, and its arguments read as before. Its conditions: the row's listed variables start as the program's text lays them.
-/
import Derived.Test.YtoiojhmfndmflaaGreatDoorRows
import Derived.Test.YtoiojhmfndmflaaGreatDoorNilW
import Derived.Test.YtoiojhmfndmflaaGreatDoorNilQ0
import Derived.Test.YtoiojhmfndmflaaGreatDoorNilQ1
import Derived.Test.YtoiojhmfndmflaaGreatDoorNilF6
import Derived.ProofKit
import Derived.OpenShut
import Derived.LaidMore
import Derived.Lay
import Derived.Stop.Joined
import Derived.ChangeMaps5
namespace Go.Proofs.YtoiojhmfndmflaaGreatDoor
open Go.ChangeMaps Go.ChangeShapes Go.WideShapes Go.ChangeAt Go.RowKit Go.Proofs.YtoiojhmfndmflaaGreatDoor.Rex
set_option maxRecDepth 100000
theorem and_t {a b : Bool} (h : a = true) (h' : b = true) : (a && b) = true := by rw [h, h']; rfl
theorem joined : joinedFacts Tryz.prog 3 Tryz.f3 Rows.guardNilSpec Rows.guardNilRow = true :=
  (and_t (and_t (and_t (and_t (and_t (and_t (and_t (and_t (and_t (and_t (and_t (and_t (and_t (and_t (and_t (and_t (and_t (and_t (and_t (and_t (and_t (and_t (and_t (and_t (and_t (and_t (and_t (and_t (and_t (and_t (and_t q0 q1) q2) q3) q4) q5) q6) q7) q8) q9) q10) q11) q12) q13) q14) q15) q16) q17) q18) q19) q20) q21) q22) q23) q24) q25) q26) q27) q28) q29) q30) q31)

def isTrue : RE → Bool
  | .ok (.retd (.bool true)) none _ _ => true
  | _ => false
theorem isTrue_eq {r : RE} (h : isTrue r = true) : ∃ h' n', r = .ok (.retd (.bool true)) none h' n' := by
  unfold isTrue at h
  split at h
  · exact ⟨_, _, rfl⟩
  · cases h

/-- The law, run at arguments that are not known. -/
theorem run_sym (l : List Nat) (i : Int) : isTrue (callG Tryz.prog 657 (drawX Tryz.prog 657) [o7] 1000 100 3 [.str l, .int .i64 i] none .lf 0) = true := by kernel_rfl

/-- Nothing is known of memory. -/
theorem sr_none (w : World) : SR (fun _ _ => none) .lf 0 w :=
  { blk := fun b x h => by rw [Tr.at_lf] at h; cases h
    inj := fun _ _ _ _ _ _ h => by cases h
    lt := fun _ _ _ h => by cases h
    nm := fun _ _ _ => rfl }

theorem kept_none {w w' : World} {σ' : Sg} {n : Nat} {may : MemPlace → Prop} (h : Fr n (fun _ _ => none) w σ' w') : w.keptBut w' may := by
  refine ⟨h.os, h.out, fun i hi => ?_⟩
  rw [h.old i hi (fun _ _ _ e => by cases e)]
  cases w.heap[i]? with
  | none => rfl
  | some o => cases o <;> first | rfl | exact ⟨rfl, rfl, rfl, fun _ _ => rfl⟩ | exact .inr ⟨rfl, rfl⟩

theorem law_run (s : ByteArray) (i : Int) (W : World) :
    Calls Tryz.prog 3 #[.string s, .int .i64 i] W fun e w' => e = .returned (.bool true) ∧ ∀ may, W.keptBut w' may := by
  intro cs
  obtain ⟨h', n', hr⟩ := isTrue_eq (run_sym (bys s) i)
  rw [callG_eq ng] at hr
  obtain ⟨_, σ', w', cs', fr, F, S, hn, hu, _, hst, hlv, hfn⟩ := runO_fn mixed ib_ok (fun o ho' => by rw [List.mem_singleton] at ho'; rw [ho']; exact o7_ok) 1000 99
    3 _ none _ 0 _ _ _ _ hr (fun _ _ => none) W [.string s, .int .i64 i] cs cs (sr_none W) (.cons (.str s) (.cons (.int _ _) .nil)) rfl
  cases hu
  obtain ⟨q1, q2, q3, fn, v', q4, q5, q6⟩ := hlv
  cases q6
  exact ⟨.returned (.bool true), w', fr, ⟨rfl, fun may => kept_none F⟩, hst, hfn, q1, q2, q3, fn, q4, q5⟩

theorem lifted (os : Os) (started : os.Started) (H : Type) (enc : TypeId × Value → H) :
    ReturnsInHanded {} Tryz.checked os 3 .any (fun w args => (Rows.guardNilSpec.pre enc Tryz.prog Tryz.f3 Rows.guardNilRow.domain false w args ∧ laidMetH Tryz.prog Rows.guardNilRow.laid w) ∧ sizedMet enc Tryz.prog Tryz.f3 (OpenSpec.ofChange Rows.guardNilSpec) false w args)
      (Rows.guardNilSpec.post enc Tryz.prog Tryz.f3 false true false false) := by
  refine returnsInHanded_of_change_and (C := Tryz.checked) (X := fun w _ => laidMetH Tryz.prog Rows.guardNilRow.laid w) (fun _ _ _ hh h => h.of_heap hh) (by kernel_rfl) started (by kernel_rfl) Tryz.func3
    (ChangeSpec.witness_shaped (enc := enc) (C := Tryz.checked) (f := 3) (fn := Tryz.f3) (s := Rows.guardNilSpec) (conds := Rows.guardNilRow.domain) (apart := false) (os := os) (X := fun w _ => laidMetH Tryz.prog Rows.guardNilRow.laid w) false (World.laidAll Tryz.prog os Rows.guardNilRow.laid) #[.string ⟨#[]⟩, .int .i64 0] 8 (World.laidAll_os _ _ _)
      (World.shaped_of_ZipB (wit_zip os) (wit_rest os)) (by kernel_rfl) (by kernel_rfl) (by kernel_rfl)
      (by rw [MakeChecks.laidMetH_plain _ _ _ (by kernel_rfl)]; exact laidMet_laidAll _ (wit_fits os) (wit_ifaces os))) ?_
  intro W base args ds gs before hval0 hW hc _ hL _
  have hval : ∀ (j : Nat) t v, Tryz.f3.params[j]? = some t → args[j]? = some v → Value.okWide Tryz.prog W .any base t v := hval0
  have hW' := hW
  obtain ⟨p, q, hA0, hV, rfl, _, _⟩ := hW
  have hA : DataW.TrodAll enc Tryz.prog W 0 (fun _ => true) true Tryz.f3.params.toList args.toList ds p := hA0
  rw [Tryz.params3] at hA hval
  obtain ⟨v0, v1, d0, d1, p0, p1, rfl, rfl, rfl, h0, h1⟩ := trodAll_two hA
  obtain ⟨rfl, rfl⟩ := trodVars_none hV
  obtain ⟨s, rfl, rfl, rfl, ws⟩ := open_string Tryz.underlying9 (hval 0 9 v0 rfl rfl) h0
  obtain ⟨i, rfl, rfl, rfl, wi⟩ := open_int Tryz.underlying2 (hval 1 2 v1 rfl rfl) h1
  simp only [List.append_nil] at hW'
  refine (law_run s i W).mono fun e W' ⟨he, hk⟩ => ?_
  subst he
  exact ⟨_, rfl, _, _, _, [], _, [], hW', trodAll_mk1 (shut_bool Tryz.underlying4 _), trodAll_mk2 (shut_string Tryz.underlying9 ws) (shut_int Tryz.underlying2 wi), rfl, hk _, fun h => by cases h⟩

theorem guardNil_holds : Rows.GuardNilSaid :=
  OpenClaim.holds_of_wide 3 Tryz.f3 rfl rfl rfl rfl rfl rfl rfl ⟨rfl, rfl, rfl, rfl, rfl⟩ rfl rfl rfl rfl rfl funcNamedF Tryz.func3 joined
    (of_decide_eq_true (by kernel_rfl)) (by unfold Func.isWrapper; first | (rw [if_pos (by decide +kernel)]; kernel_rfl) | (rw [if_neg (by decide +kernel)]; exact ⟨rfl, rfl⟩))
    (fun os started H enc _ => lifted os started H enc)
end Go.Proofs.YtoiojhmfndmflaaGreatDoor

/-
  Rex, part T: code.
-/
import Derived.Test.YtoiojhmfndmflaaGreatDoorRexS
namespace Go.Proofs.YtoiojhmfndmflaaGreatDoor.Rex
open Go

def LoopOk (P : Program) (cx : CodeF) : Prop :=
  ∀ fn rnd c a h n σ w ca cs0 cs x k, At σ h n w fn rnd a x ca cs0 cs → RcR P σ n w fn rnd a x cs0 (lone (mkF x ca (.code c :: .inLoop c :: k) .run) cs w) k (cx fn rnd (.loop c) a h n)

theorem loop_ok {P : Program} {ib : Nat} {cf : CallF} {dx : RndF → Bool → List Oper → Ac → Hp → Nat → RC} {f : Nat} (ih : CodeOk P (codeX P ib cf dx f)) (ihl : LoopOk P (codeX P ib cf dx f)) :
    LoopOk P (codeX P ib cf dx (f + 1)) := by
  intro fn rnd c a h n σ w ca cs0 cs x k H
  unfold codeX
  have h1 := ih fn rnd c a h n σ w ca cs0 cs x (.inLoop c :: k) H
  generalize hre : codeX P ib cf dx f fn rnd c a h n = r at h1
  cases r with
  | no => simp only [hre]; trivial
  | ok e a' h' n' =>
    simp only [hre]
    cases e with
    | normal =>
      obtain ⟨σ', w', ca', cs', q1, q2, q3, q4, q5, q6⟩ := h1
      exact .of_step q1 q2 q4 q5 q6 (.step st_inLoop (ihl fn rnd c a' h' n' σ' w' ca' cs0 cs' x k q3))
    | exit id => exact h1.pass (by simp) (fun _ _ _ => by simp [exitTo]) (fun _ e => by cases e)
    | goto l => exact h1.pass (by simp) (fun _ e => by cases e) (fun _ _ _ => by simp [gotoIn])
    | ret => exact h1.pass (by simp) (fun _ e => by cases e) (fun _ e => by cases e)
    | panic ch => exact h1.pass (by simp) (fun _ e => by cases e) (fun _ e => by cases e)

theorem code_ok' {P : Program} {ib : Nat} {cf : CallF} {dx : RndF → Bool → List Oper → Ac → Hp → Nat → RC} (hib : IbOk P ib) (hcf : CallOk P cf) (hdx : DrawOk P dx) :
    ∀ f, CodeOk P (codeX P ib cf dx f) ∧ LoopOk P (codeX P ib cf dx f)
  | 0 => ⟨by intro fn rnd c a h n σ w ca cs0 cs x k H; trivial, by intro fn rnd c a h n σ w ca cs0 cs x k H; trivial⟩
  | f + 1 => by
    obtain ⟨ih, ihl⟩ := code_ok' (ib := ib) hib hcf hdx f
    have hl := loop_ok ih ihl
    refine ⟨?_, hl⟩
    intro fn rnd c a h n σ w ca cs0 cs x k H
    by_cases hc : ∃ d, c = .loop d
    · obtain ⟨d, rfl⟩ := hc
      exact .step st_loop (hl fn rnd d a h n σ w ca cs0 cs x k H)
    unfold codeX
    cases c with
    | skip => exact ⟨σ, w, ca, cs, Fr.refl _ _ _, Nat.le_refl _, H, rfl, rfl, .one st_skip⟩
    | label l => exact ⟨σ, w, ca, cs, Fr.refl _ _ _, Nat.le_refl _, H, rfl, rfl, .one st_label⟩
    | ret => exact ⟨σ, w, ca, cs, Fr.refl _ _ _, Nat.le_refl _, H, rfl, rfl, k, Steps.refl _ _⟩
    | exit id => exact ⟨σ, w, ca, cs, Fr.refl _ _ _, Nat.le_refl _, H, rfl, rfl, [], fun _ => rfl, Steps.refl _ _⟩
    | goto l => exact ⟨σ, w, ca, cs, Fr.refl _ _ _, Nat.le_refl _, H, rfl, rfl, [], fun _ => rfl, Steps.refl _ _⟩
    | refuse why => trivial
    | seq c d =>
      refine .step st_seq ?_
      have h1 := ih fn rnd c a h n σ w ca cs0 cs x (.code d :: k) H
      generalize hre : codeX P ib cf dx f fn rnd c a h n = r at h1
      cases r with
      | no => simp only [hre]; trivial
      | ok e a' h' n' =>
        simp only [hre]
        cases e with
        | normal =>
          obtain ⟨σ', w', ca', cs', q1, q2, q3, q4, q5, q6⟩ := h1
          exact .of_step q1 q2 q4 q5 q6 (ih fn rnd d a' h' n' σ' w' ca' cs0 cs' x k q3)
        | exit id => exact h1.pass (by simp) (fun _ _ _ => by simp [exitTo]) (fun _ e => by cases e)
        | goto l => exact h1.pass (by simp) (fun _ e => by cases e) (fun _ _ _ => by simp [gotoIn])
        | ret => exact h1.pass (by simp) (fun _ e => by cases e) (fun _ e => by cases e)
        | panic ch => exact h1.pass (by simp) (fun _ e => by cases e) (fun _ e => by cases e)
    | cond o c d =>
      cases hv : evA a.tm o with
      | none => simp only [hv]; trivial
      | some v =>
        have vb := act_eval H.ac _ _ hv
        generalize hco : ca.eval o = cv at vb
        cases vb with
        | bool b =>
          refine .step (st_cond hco) ?_
          simp only [hv]
          cases b with
          | true => exact ih fn rnd c a h n σ w ca cs0 cs x k H
          | false => exact ih fn rnd d a h n σ w ca cs0 cs x k H
        | _ => simp only [hv]; trivial
    | block id c =>
      refine .step st_block ?_
      have h1 := ih fn rnd c a h n σ w ca cs0 cs x (.inBlock id :: k) H
      generalize hre : codeX P ib cf dx f fn rnd c a h n = r at h1
      cases r with
      | no => simp only [hre]; trivial
      | ok e a' h' n' =>
        simp only [hre]
        cases e with
        | normal =>
          obtain ⟨σ', w', ca', cs', q1, q2, q3, q4, q5, q6⟩ := h1
          exact ⟨σ', w', ca', cs', q1, q2, q3, q4, q5, q6.trans (.one st_inBlock)⟩
        | exit i =>
          simp only [nat_beq]
          by_cases hid : i = id
          · subst hid
            simp only [decide_true, cond_true]
            obtain ⟨σ', w', ca', cs', q1, q2, q3, q4, q5, j, q6, q7⟩ := h1
            exact ⟨σ', w', ca', cs', q1, q2, q3, q4, q5, q7.trans (.one (st_exit (by rw [q6]; simp [exitTo])))⟩
          · simp only [hid, decide_false, cond_false]
            exact h1.pass (by simp) (fun i' e k' => by cases e; simp [exitTo, Ne.symm hid]) (fun _ e => by cases e)
        | goto l => exact h1.pass (by simp) (fun _ e => by cases e) (fun _ _ _ => by simp [gotoIn])
        | ret => exact h1.pass (by simp) (fun _ e => by cases e) (fun _ e => by cases e)
        | panic ch => exact h1.pass (by simp) (fun _ e => by cases e) (fun _ e => by cases e)
    | loop c => exact (hc ⟨c, rfl⟩).elim
    | scope c =>
      refine .step st_scope ?_
      exact scope_ok (fun c a h n σ w ca cs k H => ih fn rnd c a h n σ w ca cs0 cs x k H) f c σ h n w a ca cs k H
    | rangeFunc g ps asg body => exact range_ok hcf H g ps asg body
    | region id ops draw =>
      cases draw with
      | true => exact hdx _ (rnd_ok ih) fn rnd id ops a h n σ w ca cs0 cs x k H
      | false =>
        refine .step st_region ?_
        have h1 := ops_ok (k := k) hib hcf (rnd_ok ih) ops.toList 0 rfl σ h n w a ca cs H
        rw [Array.length_toList, ← List.range_eq_range'] at h1
        exact rc_of_ro h1

theorem code_ok {P : Program} {ib : Nat} {cf : CallF} {dx : RndF → Bool → List Oper → Ac → Hp → Nat → RC} (hib : IbOk P ib) (hcf : CallOk P cf) (hdx : DrawOk P dx) (f : Nat) :
    CodeOk P (codeX P ib cf dx f) := (code_ok' hib hcf hdx f).1
end Go.Proofs.YtoiojhmfndmflaaGreatDoor.Rex

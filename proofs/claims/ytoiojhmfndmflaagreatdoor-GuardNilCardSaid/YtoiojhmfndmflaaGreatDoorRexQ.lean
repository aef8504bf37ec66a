/-
  Rex, part Q: regions whose order stands; code.
-/
import Derived.Test.YtoiojhmfndmflaaGreatDoorRexP
namespace Go.Proofs.YtoiojhmfndmflaaGreatDoor.Rex
open Go

theorem RoR.of_step {P : Program} {σ σ1 : Sg} {n n1 : Nat} {w w1 : World} {fn : FuncId} {rnd : Option Nat} {a a1 : Ac} {x : Cx} {cs0 : List Frame} {m m1 : Machine}
    {next : Act → List Frame → World → Machine} {K : Act → Prop} {r : RO} (hf : Fr n σ w σ1 w1) (hn : n ≤ n1) (ht : a1.nt = a.nt) (hu : a1.up.isSome = a.up.isSome) (hs : Steps P m m1)
    (h : RoR P σ1 n1 w1 fn rnd a1 x cs0 m1 next K r) : RoR P σ n w fn rnd a x cs0 m next K r := by
  cases r with
  | no => trivial
  | ok a' h' n' =>
    obtain ⟨σ', w', ca', cs', q1, q2, q3, q4, q5, q6⟩ := h
    exact ⟨σ', w', ca', cs', hf.trans q1 hn, Nat.le_trans hn q2, q3, q4.trans ht, q5.trans hu, hs.trans q6.1, q6.2⟩
  | pan ch a' h' n' =>
    obtain ⟨σ', w', ca', cs', ch', todo, q1, q2, q3, q4, q5, q6, q7⟩ := h
    exact ⟨σ', w', ca', cs', ch', todo, hf.trans q1 hn, Nat.le_trans hn q2, q3, q4.trans ht, q5.trans hu, q6, hs.trans q7⟩

theorem ops_ok {P : Program} {ib : Nat} {cf : CallF} {rf : RndF} (hib : IbOk P ib) (hcf : CallOk P cf) (hrf : RndOk P rf) {fn : FuncId} {rnd : Option Nat} {x : Cx} {cs0 : List Frame} {ops : Array Oper}
    {k : List Item} : ∀ (l : List Oper) (i : Nat), ops.toList.drop i = l → ∀ (σ : Sg) (h : Hp) (n : Nat) (w : World) (a : Ac) (ca : Act) (cs : List Frame), At σ h n w fn rnd a x ca cs0 cs →
      RoR P σ n w fn rnd a x cs0 (lone (mkF x ca (.inRegion ops (List.range' i l.length) :: k) .run) cs w) (fun ca' cs' w' => lone (mkF x ca' k .run) cs' w') (fun _ => True) (opsX P ib cf rf rnd.isSome ops.toList l a h n)
  | [], i, hl => by
    intro σ h n w a ca cs H
    exact ⟨σ, w, ca, cs, Fr.refl _ _ _, Nat.le_refl _, H, rfl, rfl, .one st_region_end, trivial⟩
  | o :: rest, i, hl => by
    intro σ h n w a ca cs H
    have ho : ops[i]? = some o := by
      have : (ops.toList.drop i)[0]? = some o := by rw [hl]; rfl
      rw [List.getElem?_drop] at this
      simpa using this
    have hrest : ops.toList.drop (i + 1) = rest := by
      have : (ops.toList.drop i).drop 1 = rest := by rw [hl]; rfl
      rwa [List.drop_drop] at this
    simp only [List.length_cons, List.range'_succ]
    unfold opsX
    split
    · trivial
    · rename_i hg
      have hw := gd_run H.ac hg
      split
      · trivial
      · rename_i a' hp
        obtain ⟨h1, h2, h3⟩ := put_ok H.ac hp (VR.tup (σ := σ) .nil)
        have hst := st_op_skip (P := P) (x := x) (ca := ca) (k := k) (cs := cs) (w := w) (ops := ops) (i := i) (rest := List.range' (i + 1) rest.length) (by simp [ho, hw])
        rw [ho] at hst
        simp only [Option.bind_some] at hst
        have H2 : At σ h n w fn rnd a' x (ca.put o.dst undef) cs0 cs := H.mono (Sg.le_refl σ) H.sr h1 (by rw [h2]; exact H.up) (by rw [h2])
        exact RoR.of_step (Fr.refl _ _ _) (Nat.le_refl _) h3 (by rw [h2]) (.one hst) (ops_ok hib hcf hrf rest (i + 1) hrest _ _ _ _ _ _ _ H2)
    · rename_i hg
      have hw := gd_run H.ac hg
      have hop := op_ok (rest := List.range' (i + 1) rest.length) (k := k) hib hcf hrf H ho hw
      generalize hre : opX P ib cf rf rnd.isSome o a h n = r at hop
      cases r with
      | no => trivial
      | ok a' h' n' =>
        obtain ⟨σ', w', ca', cs', q1, q2, q3, q4, q5, q6⟩ := hop
        exact RoR.of_step q1 q2 q4 q5 q6.1 (ops_ok hib hcf hrf rest (i + 1) hrest _ _ _ _ _ _ _ q3)
      | pan ch a' h' n' => exact hop

/-! ## Code -/

def Arr (P : Program) (x : Cx) (k : List Item) (σ : Sg) (m : Machine) (ca : Act) (cs : List Frame) (w : World) : AEx → Prop
  | .normal => Steps P m (lone (mkF x ca k .run) cs w)
  | .exit id => ∃ j, (∀ k', exitTo id (j ++ k') = exitTo id k') ∧ Steps P m (lone (mkF x ca (.code (.exit id) :: (j ++ k)) .run) cs w)
  | .goto l => ∃ j, (∀ k', gotoIn l (j ++ k') = gotoIn l k') ∧ Steps P m (lone (mkF x ca (.code (.goto l) :: (j ++ k)) .run) cs w)
  | .ret => ∃ todo, Steps P m (lone (mkF x ca (.code .ret :: todo) .run) cs w)
  | .panic ch => ∃ ch' todo, PeR σ ch ch' ∧ Steps P m (lone (mkF x ca todo (.panicking ch')) cs w)

theorem Arr.of_steps {P : Program} {x : Cx} {k : List Item} {σ : Sg} {m m1 : Machine} {ca : Act} {cs : List Frame} {w : World} {e : AEx} (hs : Steps P m m1) (h : Arr P x k σ m1 ca cs w e) :
    Arr P x k σ m ca cs w e := by
  cases e with
  | normal => exact hs.trans h
  | exit id => obtain ⟨j, h1, h2⟩ := h; exact ⟨j, h1, hs.trans h2⟩
  | goto l => obtain ⟨j, h1, h2⟩ := h; exact ⟨j, h1, hs.trans h2⟩
  | ret => obtain ⟨t, h2⟩ := h; exact ⟨t, hs.trans h2⟩
  | panic ch => obtain ⟨c, t, h1, h2⟩ := h; exact ⟨c, t, h1, hs.trans h2⟩

def RcR (P : Program) (σ : Sg) (n : Nat) (w : World) (fn : FuncId) (rnd : Option Nat) (a : Ac) (x : Cx) (cs0 : List Frame) (m : Machine) (k : List Item) : RC → Prop
  | .no => True
  | .ok e a' h' n' => ∃ σ' w' ca' cs', Fr n σ w σ' w' ∧ n ≤ n' ∧ At σ' h' n' w' fn rnd a' x ca' cs0 cs' ∧ a'.nt = a.nt ∧ a'.up.isSome = a.up.isSome ∧ Arr P x k σ' m ca' cs' w' e

def CodeOk (P : Program) (cx : CodeF) : Prop :=
  ∀ fn rnd c a h n σ w ca cs0 cs x k, At σ h n w fn rnd a x ca cs0 cs → RcR P σ n w fn rnd a x cs0 (lone (mkF x ca (.code c :: k) .run) cs w) k (cx fn rnd c a h n)

theorem RcR.of_step {P : Program} {σ σ1 : Sg} {n n1 : Nat} {w w1 : World} {fn : FuncId} {rnd : Option Nat} {a a1 : Ac} {x : Cx} {cs0 : List Frame} {m m1 : Machine}
    {k : List Item} {r : RC} (hf : Fr n σ w σ1 w1) (hn : n ≤ n1) (ht : a1.nt = a.nt) (hu : a1.up.isSome = a.up.isSome) (hs : Steps P m m1)
    (h : RcR P σ1 n1 w1 fn rnd a1 x cs0 m1 k r) : RcR P σ n w fn rnd a x cs0 m k r := by
  cases r with
  | no => trivial
  | ok e a' h' n' =>
    obtain ⟨σ', w', ca', cs', q1, q2, q3, q4, q5, q6⟩ := h
    exact ⟨σ', w', ca', cs', hf.trans q1 hn, Nat.le_trans hn q2, q3, q4.trans ht, q5.trans hu, q6.of_steps hs⟩

theorem RcR.step {P : Program} {σ : Sg} {n : Nat} {w : World} {fn : FuncId} {rnd : Option Nat} {a : Ac} {x : Cx} {cs0 : List Frame} {m m1 : Machine}
    {k : List Item} {r : RC} (hs : step P m = .next m1) (h : RcR P σ n w fn rnd a x cs0 m1 k r) : RcR P σ n w fn rnd a x cs0 m k r :=
  .of_step (Fr.refl _ _ _) (Nat.le_refl _) rfl rfl (.one hs) h

/-- One item more at the head of what is to be done: what leaves by anything but the end passes it. -/
theorem RcR.pass {P : Program} {σ : Sg} {n : Nat} {w : World} {fn : FuncId} {rnd : Option Nat} {a : Ac} {x : Cx} {cs0 : List Frame} {m : Machine} {k : List Item} {it : Item} {e : AEx} {a' : Ac} {h' : Hp} {n' : Nat}
    (he : e ≠ .normal) (hex : ∀ id, e = .exit id → ∀ k', exitTo id (it :: k') = exitTo id k') (hgo : ∀ l, e = .goto l → ∀ k', gotoIn l (it :: k') = gotoIn l k')
    (h : RcR P σ n w fn rnd a x cs0 m (it :: k) (.ok e a' h' n')) : RcR P σ n w fn rnd a x cs0 m k (.ok e a' h' n') := by
  obtain ⟨σ', w', ca', cs', q1, q2, q3, q4, q5, q6⟩ := h
  refine ⟨σ', w', ca', cs', q1, q2, q3, q4, q5, ?_⟩
  cases e with
  | normal => exact (he rfl).elim
  | exit id =>
    obtain ⟨j, h1, h2⟩ := q6
    exact ⟨j ++ [it], fun k' => by rw [List.append_assoc, h1]; exact hex id rfl k', by simpa using h2⟩
  | goto l =>
    obtain ⟨j, h1, h2⟩ := q6
    exact ⟨j ++ [it], fun k' => by rw [List.append_assoc, h1]; exact hgo l rfl k', by simpa using h2⟩
  | ret => exact q6
  | panic ch => exact q6

theorem rc_of_ro {P : Program} {σ : Sg} {n : Nat} {w : World} {fn : FuncId} {rnd : Option Nat} {a : Ac} {x : Cx} {cs0 : List Frame} {m : Machine} {k : List Item} {r : RO}
    (h : RoR P σ n w fn rnd a x cs0 m (fun ca' cs' w' => lone (mkF x ca' k .run) cs' w') (fun _ => True) r) : RcR P σ n w fn rnd a x cs0 m k (rcOf r) := by
  cases r with
  | no => trivial
  | ok a' h' n' =>
    obtain ⟨σ', w', ca', cs', q1, q2, q3, q4, q5, q6, _⟩ := h
    exact ⟨σ', w', ca', cs', q1, q2, q3, q4, q5, q6⟩
  | pan ch a' h' n' =>
    obtain ⟨σ', w', ca', cs', ch', todo, q1, q2, q3, q4, q5, q6, q7⟩ := h
    exact ⟨σ', w', ca', cs', q1, q2, q3, q4, q5, ch', todo, q6, q7⟩

/-- A region that draws. -/
def DrawOk (P : Program) (dx : RndF → Bool → List Oper → Ac → Hp → Nat → RC) : Prop :=
  ∀ rf, RndOk P rf → ∀ fn rnd id (ops : Array Oper) a h n σ w ca cs0 cs x k, At σ h n w fn rnd a x ca cs0 cs →
    RcR P σ n w fn rnd a x cs0 (lone (mkF x ca (.code (.region id ops true) :: k) .run) cs w) k (dx rf rnd.isSome ops.toList a h n)

theorem scope_ok {P : Program} {run : Code → Ac → Hp → Nat → RC} {fn : FuncId} {rnd : Option Nat} {x : Cx} {cs0 : List Frame} {body : Code}
    (hrun : ∀ c a h n σ w ca cs k, At σ h n w fn rnd a x ca cs0 cs → RcR P σ n w fn rnd a x cs0 (lone (mkF x ca (.code c :: k) .run) cs w) k (run c a h n)) :
    ∀ (f : Nat) (c : Code) (σ : Sg) (h : Hp) (n : Nat) (w : World) (a : Ac) (ca : Act) (cs : List Frame) (k : List Item), At σ h n w fn rnd a x ca cs0 cs →
      RcR P σ n w fn rnd a x cs0 (lone (mkF x ca (.code c :: .inScope body :: k) .run) cs w) k (scopeX run body f c a h n)
  | 0, c => by intro σ h n w a ca cs k H; trivial
  | f + 1, c => by
    intro σ h n w a ca cs k H
    have h1 := hrun c a h n σ w ca cs (.inScope body :: k) H
    unfold scopeX
    generalize hre : run c a h n = r at h1
    cases r with
    | no => trivial
    | ok e a' h' n' =>
      have notgoto : (∀ l, e ≠ .goto l) → RcR P σ n w fn rnd a x cs0 (lone (mkF x ca (.code c :: .inScope body :: k) .run) cs w) k (.ok e a' h' n') := by
        intro hng
        by_cases hn : e = .normal
        · subst hn
          obtain ⟨σ', w', ca', cs', q1, q2, q3, q4, q5, q6⟩ := h1
          exact ⟨σ', w', ca', cs', q1, q2, q3, q4, q5, q6.trans (.one st_inScope)⟩
        · exact h1.pass hn (fun id _ k' => by simp [exitTo]) (fun l e' => (hng l e').elim)
      cases e with
      | goto l =>
        simp only
        split
        · rename_i hfl
          exact h1.pass (by simp) (fun id e' => by cases e') (fun l' e' k' => by cases e'; simp [gotoIn, hfl])
        · rename_i rest' hfl
          obtain ⟨σ', w', ca', cs', q1, q2, q3, q4, q5, j, q6, q7⟩ := h1
          have hg : gotoIn l (j ++ .inScope body :: k) = some (.code rest' :: .inScope body :: k) := by
            rw [q6]; simp [gotoIn, hfl]
          exact .of_step q1 q2 q4 q5 (q7.trans (.one (st_goto hg))) (scope_ok hrun f rest' _ _ _ _ _ _ _ _ q3)
      | normal => exact notgoto (fun l e' => by cases e')
      | exit id => exact notgoto (fun l e' => by cases e')
      | ret => exact notgoto (fun l e' => by cases e')
      | panic ch => exact notgoto (fun l e' => by cases e')
end Go.Proofs.YtoiojhmfndmflaaGreatDoor.Rex

/-
  Rex, part D: operations that look at no memory: numbers, texts, comparisons, structs by value.
-/
import Derived.Test.YtoiojhmfndmflaaGreatDoorRexC
namespace Go.Proofs.YtoiojhmfndmflaaGreatDoor.Rex
open Go

abbrev Ev := Operand → Option AV
def ER (σ : Sg) (ev : Ev) (ρ : Operand → Value) : Prop := ∀ x v, ev x = some v → VR σ v (ρ x)

def evs (ev : Ev) : List Operand → Option (List AV)
  | [] => some []
  | x :: l => match ev x with
    | none => none
    | some v => match evs ev l with
      | none => none
      | some r => some (v :: r)
theorem evs_vr {σ : Sg} {ev : Ev} {ρ : Operand → Value} (hr : ER σ ev ρ) : ∀ {l : List Operand} {r : List AV}, evs ev l = some r → VRs σ r (l.map ρ)
  | [], r, h => by cases h; exact .nil
  | x :: l, r, h => by
    simp only [evs] at h
    split at h
    · cases h
    · split at h
      · cases h
      · cases h; exact .cons (hr _ _ ‹_›) (evs_vr hr ‹_›)

/-! ## Numbers -/

def bitsA (op : BinOp) (k : IntKind) (x y : Int) : Option Int :=
  let a := BitVec.ofInt k.bits x
  let b := BitVec.ofInt k.bits y
  match op with
  | .and => some (k.wrap (a &&& b).toNat)
  | .or => some (k.wrap (a ||| b).toNat)
  | .xor => some (k.wrap (a ^^^ b).toNat)
  | .andNot => some (k.wrap (a &&& ~~~b).toNat)
  | _ => none

def arA (op : BinOp) (k : IntKind) (x y : Int) : Option AV :=
  match op with
  | .add => some (.int k (iwrap k (x + y)))
  | .sub => some (.int k (iwrap k (x - y)))
  | .mul => some (.int k (iwrap k (x * y)))
  | .eql => some (.bool (ieq x y))
  | .neq => some (.bool (!ieq x y))
  | .lss => some (.bool (ilt x y))
  | .leq => some (.bool (!ilt y x))
  | .gtr => some (.bool (ilt y x))
  | .geq => some (.bool (!ilt x y))
  | .quo => bif ieq y 0 then none else some (.int k (k.wrap (x.tdiv y)))
  | .rem => bif ieq y 0 then none else some (.int k (x.tmod y))
  | .shl | .shr => none
  | op => match bitsA op k x y with
    | none => none
    | some n => some (.int k n)

def shA (op : BinOp) (k : IntKind) (x y : Int) : Option AV :=
  bif ilt y 0 then none else
  match op with
  | .shl => some (.int k (k.wrap (x * 2 ^ (min y.toNat k.bits))))
  | .shr => some (.int k (x.fdiv (2 ^ (min y.toNat k.bits))))
  | _ => none

def stA (op : BinOp) (x y : List Nat) : Option AV :=
  match op with
  | .add => bif Nat.ble (x.length + y.length) 1000000000 then some (.str (x ++ y)) else none
  | .eql => some (.bool (leq x y))
  | .neq => some (.bool (!leq x y))
  | .lss => some (.bool (llt x y))
  | .leq => some (.bool (llt x y || leq x y))
  | .gtr => some (.bool (!(llt x y || leq x y)))
  | .geq => some (.bool (!llt x y))
  | _ => none

def isShift : BinOp → Bool
  | .shl | .shr => true
  | _ => false

section
variable {P : Program} {σ : Sg}
theorem ar_run {op : BinOp} {k : IntKind} {x y : Int} {v : AV} (h : arA op k x y = some v) (t : TypeId) (w : World) :
    ∃ v', (binOp op t (.int k x) (.int k y)).run P w = .ok v' w ∧ VR σ v v' := by
  cases op <;> simp only [arA, iwrap_eq, ilt_eq, ieq_eq, bitsA, Bool.cond_eq_ite, Option.some.injEq, reduceCtorEq] at h <;> first
    | (subst h; refine ⟨_, by simp [binOp, Op.intArith, Op.intCmp]; rfl, ?_⟩; constructor; done)
    | (subst h; refine ⟨_, by simp [binOp, Op.intBits]; rfl, ?_⟩; constructor; done)
    | (subst h; refine ⟨.bool _, by simp [binOp, Op.intCmp]; rfl, ?_⟩
       first
         | (constructor; done)
         | (rw [show (x != y) = (!decide (x = y)) from by rw [Bool.eq_iff_iff]; simp]; constructor; done)
         | (rw [show (x == y) = (decide (x = y)) from by rw [Bool.eq_iff_iff]; simp]; constructor; done)
         | (rw [← decide_not]; simp only [Int.not_lt]; constructor; done))
    | (split at h
       · cases h
       · rename_i hy
         have hy : ¬ y = 0 := by simpa using hy
         cases h; refine ⟨_, by simp [binOp, Op.intDiv, hy]; rfl, ?_⟩; constructor; done)
    | (exfalso; simp at h; done)
theorem sh_run {op : BinOp} {k k' : IntKind} {x y : Int} {v : AV} (h : shA op k x y = some v) (t : TypeId) (w : World) :
    ∃ v', (binOp op t (.int k x) (.int k' y)).run P w = .ok v' w ∧ VR σ v v' := by
  simp only [shA, ilt_eq, Bool.cond_eq_ite] at h
  split at h
  · cases h
  · rename_i hy
    have hy : ¬ y < 0 := by simpa using hy
    cases op <;> simp only [reduceCtorEq, Option.some.injEq] at h <;> (subst h; refine ⟨_, by simp [binOp, Op.shift, hy]; rfl, ?_⟩; constructor)
theorem st_run {op : BinOp} {x y : ByteArray} {v : AV} (h : stA op (bys x) (bys y) = some v) (t : TypeId) (w : World) :
    ∃ v', (binOp op t (.string x) (.string y)).run P w = .ok v' w ∧ VR σ v v' := by
  cases op <;> simp only [stA, leq_bys, llt_bys, Bool.cond_eq_ite, bys_length, Option.some.injEq, reduceCtorEq] at h <;> first
    | (subst h; exact ⟨.bool _, rfl, .bool _⟩)
    | (split at h
       · rename_i hn
         cases h
         have hn : x.size + y.size ≤ 1000000000 := Nat.le_of_ble_eq_true hn
         have hm : ¬ (((x.size + y.size : Nat) : Int) > IntKind.i64.max) := by
           simp only [IntKind.max, IntKind.signed, IntKind.bits, if_true]; omega
         refine ⟨.string (x ++ y), ?_, by rw [← bys_append]; constructor⟩
         simp only [binOp, Op.stringOp, if_neg hm, Sem.run_pure]
       · cases h)
theorem guard_int (op : BinOp) (t : TypeId) (x y : Operand) (k k' : IntKind) (a b : Int) (w : World) : (eqGuard op t x y (.int k a) (.int k' b)).run P w = .ok () w := by
  cases op <;> simp [eqGuard]
theorem guard_str (op : BinOp) (t : TypeId) (x y : Operand) (a b : ByteArray) (w : World) : (eqGuard op t x y (.string a) (.string b)).run P w = .ok () w := by
  cases op <;> simp [eqGuard]
end

/-! ## Comparisons of other values -/

def partA (P : Program) (t : TypeId) (l : List AV) (off : Nat) : Option AV :=
  match ty P t with
  | none => none
  | some i => bif i.agg then some (.agg ((l.drop off).take i.size)) else nth l off

theorem part_run {P : Program} {σ : Sg} {t : TypeId} {l : List AV} {off : Nat} {v : AV} (h : partA P t l off = some v) {cs : List Value} (hl : VRs σ l cs) (h1 : ∀ v ∈ l, v.one = true) (w : World) :
    ∃ v', (part t ⟨cs⟩ off).run P w = .ok v' w ∧ VR σ v v' := by
  unfold partA at h
  split at h
  · cases h
  · rename_i i hi
    cases ha : i.agg
    · rw [ha] at h
      simp only [cond_false, nth_eq] at h
      obtain ⟨v', e, hv⟩ := hl.get h
      refine ⟨v', ?_, hv⟩
      simp [part, ty_agg hi, ha, e]
    · rw [ha] at h
      simp only [cond_true, Option.some.injEq] at h
      subst h
      refine ⟨.agg ⟨(cs.drop off).take i.size⟩, ?_, .agg ((hl.drop off).take i.size) fun v hv => h1 v (List.mem_of_mem_drop (List.mem_of_mem_take hv))⟩
      have e : (⟨cs⟩ : Array Value).extract off (off + i.size) = ⟨(cs.drop off).take i.size⟩ := by apply Array.ext'; simp [List.extract]
      simp [part, ty_agg hi, ha, ty_size hi, e]

/-- Struct by struct: the fields that are not blank. -/
def eqFs (P : Program) (f : TypeId → AV → AV → Option Bool) : List Field → List AV → List AV → Option Bool
  | [], _, _ => some true
  | fd :: fs, xs, ys =>
    bif fd.name == "_" then eqFs P f fs xs ys else
    match partA P fd.type xs fd.offset with
    | none => none
    | some a => match partA P fd.type ys fd.offset with
      | none => none
      | some b => match f fd.type a b with
        | none => none
        | some false => some false
        | some true => eqFs P f fs xs ys

def eqIn (P : Program) : Nat → TypeId → AV → AV → Option Bool
  | 0, _, _, _ => none
  | d + 1, t, a, b =>
    match ty P t with
    | none => none
    | some i => match i.d, a, b with
      | .bool, .bool x, .bool y => some (x == y)
      | .int _, .int k x, .int k' y => bif keq k k' then some (ieq x y) else none
      | .string, .str x, .str y => some (leq x y)
      | .pointer _, .nptr, .nptr => some true
      | .pointer _, .nptr, .ptr _ _ _ _ => some false
      | .pointer _, .ptr _ _ _ _, .nptr => some false
      | .slice _, .nsl, .nsl => some true
      | .slice _, .nsl, .sl _ _ _ _ _ _ _ => some false
      | .slice _, .sl _ _ _ _ _ _ _, .nsl => some false
      | .slice _, .nsl, .se => some false
      | .slice _, .se, .nsl => some false
      | .map _ _, .nmap, .nmap => some true
      | .map _ _, .nmap, .map _ => some false
      | .map _ _, .map _, .nmap => some false
      | .func _ _ _, .nfn, .nfn => some true
      | .func _ _ _, .nfn, .fn _ _ _ => some false
      | .func _ _ _, .fn _ _ _, .nfn => some false
      | .func _ _ _, .nfn, .yfn _ => some false
      | .func _ _ _, .yfn _, .nfn => some false
      | .interface _, .nifc, .nifc => some true
      | .interface _, .nifc, .ifc _ _ => some false
      | .interface _, .ifc _ _, .nifc => some false
      | .struct fs, .agg xs, .agg ys => bif P.stoodInHeld t then none else eqFs P (eqIn P d) fs.toList xs ys
      | _, _, _ => none

theorem eqFs_run {P : Program} {σ : Sg} (f : TypeId → AV → AV → Option Bool) (D : Nat)
    (hf : ∀ t a b r, f t a b = some r → ∀ a' b', VR σ a a' → VR σ b b' → ∀ w, (Op.equalIn D t a' b').run P w = .ok r w) :
    ∀ (fs : List Field) (xs ys : List AV) (r : Bool), eqFs P f fs xs ys = some r → ∀ {xs' ys' : List Value}, VRs σ xs xs' → VRs σ ys ys' → (∀ v ∈ xs, v.one = true) → (∀ v ∈ ys, v.one = true) → ∀ w,
      (Op.eqFields D ⟨xs'⟩ ⟨ys'⟩ fs).run P w = .ok r w
  | [], xs, ys, r, h, xs', ys', _, _, _, _, w => by cases h; simp [Op.eqFields]
  | fd :: fs, xs, ys, r, h, xs', ys', hx, hy, ox, oy, w => by
    simp only [eqFs, Bool.cond_eq_ite] at h
    split at h
    · rename_i hn
      have hn : fd.name = "_" := by simpa using hn
      simp only [Op.eqFields, hn, ne_eq, not_true, if_false]
      exact eqFs_run f D hf fs xs ys r h hx hy ox oy w
    · rename_i hn
      have hn : fd.name ≠ "_" := by simpa using hn
      split at h
      · cases h
      · rename_i a ha
        split at h
        · cases h
        · rename_i b hb
          obtain ⟨a', ra, va⟩ := part_run ha hx ox w
          obtain ⟨b', rb, vb⟩ := part_run hb hy oy w
          split at h
          · cases h
          · rename_i hfr
            cases h
            have := hf _ _ _ _ hfr _ _ va vb w
            simp [Op.eqFields, hn, ra, rb, this]
          · rename_i hfr
            have := hf _ _ _ _ hfr _ _ va vb w
            have ih := eqFs_run f D hf fs xs ys r h hx hy ox oy w
            simp [Op.eqFields, hn, ra, rb, this, ih]

theorem eqIn_run {P : Program} {σ : Sg} : ∀ (d : Nat) (t : TypeId) (a b : AV) (r : Bool), eqIn P d t a b = some r →
    ∀ D, d ≤ D → ∀ a' b', VR σ a a' → VR σ b b' → ∀ w, (Op.equalIn D t a' b').run P w = .ok r w
  | 0, t, a, b, r, h => by cases h
  | d + 1, t, a, b, r, h => by
    intro D hD a' b' ha hb w
    obtain ⟨D, rfl⟩ : ∃ n, D = n + 1 := ⟨D - 1, by omega⟩
    simp only [eqIn] at h
    split at h
    · cases h
    · rename_i i hi
      have hu := ty_run hi
      have hud := ty_und hi
      split at h <;> (rename_i hdd; try (rw [hdd] at hu hud)) <;> first
        | (cases h; cases ha; cases hb; rw [Op.equalIn, Sem.run_bind, hu, Result.andThen_ok]; rfl)
        | (simp only [Bool.cond_eq_ite] at h
           split at h
           · rename_i hk
             have hk := keq_eq hk
             subst hk
             cases h; cases ha; cases hb
             rw [Op.equalIn, Sem.run_bind, hu, Result.andThen_ok, ieq_eq]
             simp only [if_true, Sem.run_pure]
             congr 1
           · cases h)
        | (cases h; cases ha; cases hb; rw [Op.equalIn, Sem.run_bind, hu, Result.andThen_ok, leq_bys, ← beq_toListBytes]; rfl)
        | (cases hs : P.stoodInHeld t
           · rw [hs, cond_false] at h
             cases ha with | agg hx ox => cases hb with | agg hy oy =>
             rw [run_equalIn_struct w D t _ _ (by simp only [Program.fieldsOf, hud]) hs]
             simp only [Program.fieldsOf, hud]
             exact eqFs_run _ D (fun t a b r hr a' b' va vb w => eqIn_run d t a b r hr D (by omega) a' b' va vb w) _ _ _ _ h hx hy ox oy w
           · rw [hs, cond_true] at h; cases h)
        | cases h

/-- '==' on what is neither number nor text (cst: one side is a literal). -/
def eqA (P : Program) (t : TypeId) (cst : Bool) (a b : AV) : Option Bool :=
  match a, b with
  | .nifc, .nifc => bif cst then eqIn P 5 t a b else none
  | .agg _, .agg _ => bif P.eqGuardType P.depth t then none else eqIn P 5 t a b
  | _, _ => eqIn P 5 t a b

def isCst : Operand → Bool
  | .const _ => true
  | _ => false

theorem eqA_guard {P : Program} {σ : Sg} {op : BinOp} {t : TypeId} {x y : Operand} {a b : AV} {a' b' : Value} {r : Bool} (h : eqA P t (isCst x || isCst y) a b = some r)
    (ha : VR σ a a') (hb : VR σ b b') (w : World) : (eqGuard op t x y a' b').run P w = .ok () w := by
  unfold eqA at h
  split at h
  · cases ha; cases hb
    cases hc : (isCst x || isCst y)
    · rw [hc] at h; cases h
    · cases x <;> cases y <;> first
        | (exfalso; simp [isCst] at hc; done)
        | (cases op <;> simp [eqGuard]; done)
  · cases ha; cases hb
    cases hc : P.eqGuardType P.depth t
    · exact run_eqGuard_agg w op t x y _ _ hc
    · rw [hc] at h; cases h
  · cases ha <;> cases hb <;> first
      | (cases op <;> simp [eqGuard]; done)
      | simp_all

theorem eqA_in {P : Program} {t : TypeId} {c : Bool} {a b : AV} {r : Bool} (h : eqA P t c a b = some r) : eqIn P 5 t a b = some r := by
  unfold eqA at h
  split at h
  · cases c <;> first | cases h | exact h
  · cases hc : P.eqGuardType P.depth t <;> rw [hc] at h <;> first | exact h | cases h
  · exact h

def binA (P : Program) (op : BinOp) (t : TypeId) (cst : Bool) (a b : AV) : Option AV :=
  match a, b with
  | .int k x, .int k' y => bif isShift op then shA op k x y else bif keq k k' then arA op k x y else none
  | .str x, .str y => stA op x y
  | a, b => match op with
    | .eql => match eqA P t cst a b with
      | none => none
      | some r => some (.bool r)
    | .neq => match eqA P t cst a b with
      | none => none
      | some r => some (.bool (!r))
    | _ => none

theorem equal_other {P : Program} {σ : Sg} {op : BinOp} {t : TypeId} {a b : AV} {a' b' : Value} {r : Bool} (h : eqIn P 5 t a b = some r) (ha : VR σ a a') (hb : VR σ b b')
    (hab : ∀ k x k' y, a = .int k x → b = .int k' y → False) (hst : ∀ x y, a = .str x → b = .str y → False) (w : World) :
    (op = .eql → (binOp op t a' b').run P w = .ok (.bool r) w) ∧ (op = .neq → (binOp op t a' b').run P w = .ok (.bool (!r)) w) := by
  have he : (Op.equal t a' b').run P w = .ok r w := eqIn_run 5 t a b r h 10000 (by omega) a' b' ha hb w
  constructor
  · rintro rfl
    cases ha <;> cases hb <;> first
      | exact (hab _ _ _ _ rfl rfl).elim
      | exact (hst _ _ rfl rfl).elim
      | (simp only [binOp, Sem.run_bind, he, Result.andThen_ok, Sem.run_pure])
  · rintro rfl
    cases ha <;> cases hb <;> first
      | exact (hab _ _ _ _ rfl rfl).elim
      | exact (hst _ _ rfl rfl).elim
      | (simp only [binOp, Sem.run_bind, he, Result.andThen_ok, Sem.run_pure])

theorem bin_run {P : Program} {σ : Sg} {op : BinOp} {t : TypeId} {x y : Operand} {a b : AV} {a' b' : Value} {v : AV} (h : binA P op t (isCst x || isCst y) a b = some v)
    (ha : VR σ a a') (hb : VR σ b b') (w : World) : ∃ v', (do eqGuard op t x y a' b'; binOp op t a' b' : Sem Value).run P w = .ok v' w ∧ VR σ v v' := by
  unfold binA at h
  split at h
  · rename_i k x0 k' y0
    cases ha; cases hb
    simp only [Sem.run_bind, guard_int, Result.andThen_ok]
    simp only [Bool.cond_eq_ite] at h
    split at h
    · exact sh_run h t w
    · split at h
      · rename_i hk
        have hk := keq_eq hk
        subst hk
        exact ar_run h t w
      · cases h
  · cases ha; cases hb
    simp only [Sem.run_bind, guard_str, Result.andThen_ok]
    exact st_run h t w
  · rename_i hab hst
    split at h
    · split at h
      · cases h
      · rename_i r hr
        cases h
        refine ⟨.bool r, ?_, .bool r⟩
        simp only [Sem.run_bind, eqA_guard hr ha hb, Result.andThen_ok]
        exact (equal_other (eqA_in hr) ha hb (fun k x k' y e1 e2 => hab k x k' y e1 e2) (fun x y e1 e2 => hst x y e1 e2) w).1 rfl
    · split at h
      · cases h
      · rename_i r hr
        cases h
        refine ⟨.bool (!r), ?_, .bool (!r)⟩
        simp only [Sem.run_bind, eqA_guard hr ha hb, Result.andThen_ok]
        exact (equal_other (eqA_in hr) ha hb (fun k x k' y e1 e2 => hab k x k' y e1 e2) (fun x y e1 e2 => hst x y e1 e2) w).2 rfl
    · cases h
end Go.Proofs.YtoiojhmfndmflaaGreatDoor.Rex

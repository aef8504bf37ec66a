/-
  Rex, part C: operations that look at no memory, as the executor carries them out; each is what the model does.
-/
import GoSem.Dispatch
import Derived.Laws.StructEq
import Derived.Test.YtoiojhmfndmflaaGreatDoorRexB
namespace Go.Proofs.YtoiojhmfndmflaaGreatDoor.Rex
open Go

/-! ## Types -/

structure TI where
  d : TypeDesc
  size : Nat
  bytes : Nat
  zero : Option AV
  agg : Bool

def isAggD : TypeDesc → Bool
  | .struct _ | .array _ _ => true
  | _ => false

def nth {α : Type} : List α → Nat → Option α
  | [], _ => none
  | a :: _, 0 => some a
  | _ :: l, n + 1 => nth l n
theorem nth_eq {α : Type} : ∀ (l : List α) (n : Nat), nth l n = l[n]?
  | [], _ => rfl
  | _ :: _, 0 => rfl
  | _ :: l, n + 1 => by simpa [nth] using nth_eq l n

/-- A list from every 32nd place on. -/
def chunk {α : Type} (l : List α) : Nat → List α
  | 0 => l
  | k + 1 => (chunk l k).drop 32
theorem chunk_eq {α : Type} (l : List α) : ∀ k, chunk l k = l.drop (32 * k)
  | 0 => by simp [chunk]
  | k + 1 => by rw [chunk, chunk_eq l k, List.drop_drop, show 32 * k + 32 = 32 * (k + 1) from by omega]
def nthC {α : Type} (l : List α) (n : Nat) : Option α := nth (chunk l (Nat.div n 32)) (Nat.mod n 32)
theorem nthC_eq {α : Type} (l : List α) (n : Nat) : nthC l n = l[n]? := by
  unfold nthC
  rw [nth_eq, chunk_eq, List.getElem?_drop, show 32 * Nat.div n 32 + Nat.mod n 32 = n from Nat.div_add_mod n 32]

def inf (P : Program) (t : TypeId) : Option TypeInfo :=
  match nthC P.types.toList t with
  | some i => some i
  | none => P.info? t
theorem inf_eq (P : Program) (t : TypeId) : inf P t = P.info? t := by
  unfold inf
  split
  · rename_i i hi
    rw [nthC_eq, Array.getElem?_toList] at hi
    have hlt : t < P.types.size := (Array.getElem?_eq_some_iff.1 hi).1
    unfold Tables.info?
    rw [if_pos hlt, hi]
  · rfl
def und (P : Program) (t : TypeId) : Option TypeDesc :=
  match inf P t with
  | some { desc := .named _ u, .. } => (inf P u).map (·.desc)
  | some i => some i.desc
  | none => none
theorem und_eq (P : Program) (t : TypeId) : und P t = P.underlying t := by
  unfold und Program.underlying
  simp only [inf_eq]
  rfl

def ty (P : Program) (t : TypeId) : Option TI :=
  match inf P t with
  | none => none
  | some i => match und P t with
    | none => none
    | some d => some { d, size := i.size, bytes := i.bytes, zero := (match i.zero with | none => none | some z => ofV z), agg := isAggD d }

section
variable {P : Program} {t : TypeId} {i : TI}
theorem ty_und (h : ty P t = some i) : P.underlying t = some i.d := by
  unfold ty at h
  rw [inf_eq, und_eq] at h
  split at h
  · cases h
  · split at h
    · cases h
    · cases h; assumption
theorem ty_run (h : ty P t = some i) (w : World) : (underlying t).run P w = .ok i.d w := run_underlying (ty_und h) w
theorem ty_info (h : ty P t = some i) : ∃ inf : TypeInfo, (∀ w, (typeInfo t).run P w = .ok inf w) ∧ inf.size = i.size ∧ inf.bytes = i.bytes ∧
    (∀ z, i.zero = some z → ∃ z', inf.zero = some z' ∧ ofV z' = some z) := by
  unfold ty at h
  rw [inf_eq, und_eq] at h
  split at h
  · cases h
  · rename_i inf hi
    split at h
    · cases h
    · cases h
      refine ⟨inf, fun w => by simp [typeInfo, hi], rfl, rfl, fun z hz => ?_⟩
      dsimp only at hz
      split at hz
      · cases hz
      · exact ⟨_, by assumption, hz⟩
theorem ty_size (h : ty P t = some i) (w : World) : (sizeOf t).run P w = .ok i.size w := by
  obtain ⟨inf, hr, hs, _⟩ := ty_info h
  simp [sizeOf, hr, hs]
theorem ty_aggD (h : ty P t = some i) : i.agg = isAggD i.d := by
  unfold ty at h
  rw [inf_eq, und_eq] at h
  split at h
  · cases h
  · split at h
    · cases h
    · cases h; rfl
theorem ty_agg (h : ty P t = some i) (w : World) : (isAgg t).run P w = .ok i.agg w := by
  rw [ty_aggD h]
  simp only [isAgg, Sem.run_bind, ty_run h, Result.andThen_ok]
  cases i.d <;> rfl
theorem ty_zero (h : ty P t = some i) {z : AV} (hz : i.zero = some z) : ∃ z', (∀ w, (zeroValue t).run P w = .ok z' w) ∧ ofV z' = some z := by
  obtain ⟨inf, hr, _, _, h0⟩ := ty_info h
  obtain ⟨z', e, ho⟩ := h0 z hz
  exact ⟨z', fun w => by simp [zeroValue, hr, e], ho⟩
end

/-! ## Numbers, texts -/

def iwrap (k : IntKind) (n : Int) : Int :=
  match k, n with
  | .i64, .ofNat m => bif Nat.ble 9223372036854775808 m then k.wrap n else n
  | _, _ => k.wrap n
theorem iwrap_eq (k : IntKind) (n : Int) : iwrap k n = k.wrap n := by
  unfold iwrap
  split
  · rename_i m
    cases h : Nat.ble 9223372036854775808 m
    · have hm : ¬ 9223372036854775808 ≤ m := fun e => by rw [Nat.ble_eq_true_of_le e] at h; cases h
      show (m : Int) = IntKind.wrap .i64 (m : Int)
      have e : (m : Int) % 18446744073709551616 = m := by omega
      simp [IntKind.wrap, IntKind.bits, IntKind.signed, e]
      omega
    · rfl
  · rfl

def ilt : Int → Int → Bool
  | .ofNat a, .ofNat b => Nat.blt a b
  | .negSucc a, .negSucc b => Nat.blt b a
  | .negSucc _, .ofNat _ => true
  | .ofNat _, .negSucc _ => false
theorem nat_blt (a b : Nat) : Nat.blt a b = decide (a < b) := by
  rw [Bool.eq_iff_iff]; simp [Nat.blt_eq]
theorem ilt_eq (x y : Int) : ilt x y = decide (x < y) := by
  cases x <;> cases y <;> simp only [ilt, nat_blt] <;> (rw [Bool.eq_iff_iff]; simp; try omega)
def ieq : Int → Int → Bool
  | .ofNat a, .ofNat b => Nat.beq a b
  | .negSucc a, .negSucc b => Nat.beq a b
  | _, _ => false
theorem nat_beq (a b : Nat) : Nat.beq a b = decide (a = b) := by
  rw [Bool.eq_iff_iff]; simp
theorem ieq_eq (x y : Int) : ieq x y = decide (x = y) := by
  cases x <;> cases y <;> simp only [ieq, nat_beq] <;> (rw [Bool.eq_iff_iff]; simp; try omega)

def keq : IntKind → IntKind → Bool
  | .i8, .i8 | .i16, .i16 | .i32, .i32 | .i64, .i64 | .u8, .u8 | .u16, .u16 | .u32, .u32 | .u64, .u64 => true
  | _, _ => false
theorem keq_eq {k k' : IntKind} (h : keq k k' = true) : k = k' := by cases k <;> cases k' <;> first | rfl | cases h

def leq : List Nat → List Nat → Bool
  | [], [] => true
  | a :: l, b :: m => bif Nat.beq a b then leq l m else false
  | _, _ => false
theorem leq_eq : ∀ l m : List Nat, leq l m = decide (l = m)
  | [], [] => rfl
  | [], _ :: _ => rfl
  | _ :: _, [] => rfl
  | a :: l, b :: m => by
    simp only [leq, nat_beq, leq_eq l m]
    by_cases h : a = b <;> simp [h]
def llt : List Nat → List Nat → Bool
  | _, [] => false
  | [], _ :: _ => true
  | a :: l, b :: m => bif Nat.blt a b then true else bif Nat.beq a b then llt l m else false

theorem bys_inj {s s' : ByteArray} (h : bys s = bys s') : s = s' := by
  obtain ⟨⟨l⟩⟩ := s
  obtain ⟨⟨l'⟩⟩ := s'
  have : l = l' := by
    have := (List.map_inj_right (f := fun x : UInt8 => x.toNat) (fun x y e => UInt8.toNat_inj.1 e)).1 h
    exact this
  rw [this]
theorem toList_bytes (s : ByteArray) : s.toList = s.data.toList := by rw [ByteArray.toList_eq]
theorem leq_bys (s s' : ByteArray) : leq (bys s) (bys s') = (s.toList == s'.toList) := by
  rw [leq_eq, Bool.eq_iff_iff]
  simp only [decide_eq_true_eq, beq_iff_eq, toList_bytes]
  constructor
  · intro h; rw [bys_inj h]
  · intro h; unfold bys; rw [h]
theorem llt_map : ∀ l m : List UInt8, llt (l.map (·.toNat)) (m.map (·.toNat)) = Op.bytesLess l m
  | l, [] => by cases l <;> rfl
  | [], _ :: _ => rfl
  | a :: l, b :: m => by
    simp only [List.map, llt, Op.bytesLess, llt_map l m, nat_blt, nat_beq]
    have h1 : decide (a.toNat < b.toNat) = decide (a < b) := by
      rw [Bool.eq_iff_iff]; simp [UInt8.lt_iff_toNat_lt]
    have h2 : decide (a.toNat = b.toNat) = (a == b) := by
      rw [Bool.eq_iff_iff]; simp [UInt8.toNat_inj]
    rw [h1, h2]
    cases decide (a < b) <;> cases (a == b) <;> rfl
theorem llt_bys (s s' : ByteArray) : llt (bys s) (bys s') = Op.bytesLess s.toList s'.toList := by
  rw [toList_bytes, toList_bytes]; exact llt_map _ _
theorem bys_length (s : ByteArray) : (bys s).length = s.size := by
  unfold bys; simp
theorem bys_append (s s' : ByteArray) : bys (s ++ s') = bys s ++ bys s' := by
  unfold bys; simp
theorem bys_extract (s : ByteArray) (l h : Nat) : bys (s.extract l h) = ((bys s).drop l).take (h - l) := by
  unfold bys; simp [ByteArray.data_extract, List.map_take, List.map_drop]
end Go.Proofs.YtoiojhmfndmflaaGreatDoor.Rex

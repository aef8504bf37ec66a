/-
  Rex, part F: all operations that look at no memory, in one function; what it tells is what the model does.
-/
import Derived.Test.YtoiojhmfndmflaaGreatDoorRexE
namespace Go.Proofs.YtoiojhmfndmflaaGreatDoor.Rex
open Go

def fieldAddrA (P : Program) (s : TypeId) (x : AV) (f : Nat) : Option AV :=
  match ty P s with
  | none => none
  | some i => match i.d, x with
    | .struct fs, .ptr b g off ext => match nth fs.toList f with
      | none => none
      | some fd => match ty P fd.type with
        | none => none
        | some fi => bif !(Nat.beq fi.size 0) && Nat.ble (fd.offset + fi.size) ext then some (.ptr b g (off + fd.offset) fi.size) else none
    | _, _ => none

def fieldA (P : Program) (s : TypeId) (x : AV) (f : Nat) : Option AV :=
  match ty P s with
  | none => none
  | some i => match i.d, x with
    | .struct fs, .agg l => match nth fs.toList f with
      | none => none
      | some fd => partA P fd.type l fd.offset
    | _, _ => none

def indexAddrA (P : Program) (t : TypeId) (x i : AV) : Option AV :=
  match ty P t, natOf i with
  | some ti, some n => match ti.d, x with
    | .slice e, .sl b g off len sz _ _ => match ty P e with
      | none => none
      | some ei => bif Nat.beq ei.size sz && Nat.blt n len then some (.ptr b g (off + n * sz) sz) else none
    | .array len e, .ptr b g off ext => match ty P e with
      | none => none
      | some ei => bif Nat.blt n len && Nat.ble (n * ei.size + ei.size) ext then some (.ptr b g (off + n * ei.size) ei.size) else none
    | _, _ => none
  | _, _ => none

def indexA (P : Program) (t : TypeId) (x i : AV) : Option AV :=
  match ty P t, natOf i with
  | some ti, some n => match ti.d, x with
    | .array len e, .agg l => match ty P e with
      | none => none
      | some ei => bif Nat.blt n len then partA P e l (n * ei.size) else none
    | .string, .str l => match nth l n with
      | none => none
      | some c => some (.int .u8 (.ofNat c))
    | _, _ => none
  | _, _ => none

def isIface : TypeDesc → Bool
  | .interface _ => true
  | _ => false

def assertA (P : Program) (x : AV) (asserted : TypeId) (ok : Bool) : Option AV :=
  match ty P asserted, x with
  | some i, .ifc t v => bif !isIface i.d && Nat.beq t asserted then some (bif ok then .tup [v, .bool true] else v) else none
  | _, _ => none

def lenA (P : Program) (t : TypeId) (x : AV) : Option AV :=
  match ty P t with
  | none => none
  | some i => match i.d, x with
    | .string, .str l => some (.int .i64 (.ofNat l.length))
    | .slice _, .sl _ _ _ len _ _ _ => some (.int .i64 (.ofNat len))
    | .slice _, .se => some (.int .i64 (.ofNat 0))
    | .slice _, .nsl => some (.int .i64 (.ofNat 0))
    | .map _ _, .nmap => some (.int .i64 (.ofNat 0))
    | _, _ => none

def nilCheckA : AV → Option AV
  | .ptr b g off ext => some (.ptr b g off ext)
  | .fn (.func f) first cap => some (.fn (.func f) first cap)
  | _ => none

def unA (op : UnOp) (x : AV) : Option AV :=
  match op, x with
  | .not, .bool b => some (.bool (!b))
  | .neg, .int k n => some (.int k (iwrap k (0 - n)))
  | _, _ => none

def convA (P : Program) (src dst : TypeId) (x : AV) : Option AV :=
  match ty P src, ty P dst with
  | some _, some i => match i.d, x with
    | .int k, .int _ n => some (.int k (iwrap k n))
    | .string, .str l => some (.str l)
    | _, _ => none
  | _, _ => none

def mkIfcA (P : Program) (t : TypeId) (x : AV) : Option AV :=
  match ty P t with
  | none => none
  | some i => bif isIface i.d then none else some (.ifc t x)

def pickA (c a b : AV) : Option AV :=
  match c with
  | .bool true => some a
  | .bool false => some b
  | _ => none

def mnA (a b : AV) : Option AV :=
  match a, b with
  | .int k x, .int _ y => some (.int k (bif ilt y x then y else x))
  | _, _ => none
def mxA (a b : AV) : Option AV :=
  match a, b with
  | .int k x, .int _ y => some (.int k (bif ilt x y then y else x))
  | _, _ => none

def ap1 (o : Option AV) (f : AV → Option AV) : Option AV :=
  match o with
  | none => none
  | some v => f v

def extA (x : AV) (i : Nat) : Option AV :=
  match x with
  | .tup l => nth l i
  | _ => none

/-- What an operation that looks at no memory tells. -/
def pureOp (P : Program) (ev : Ev) (op : Op) : Option AV :=
  match op with
  | .move x => ev x
  | .assign x => ev x
  | .pick c a b => ap1 (ev c) fun c => ap1 (ev a) fun a => ap1 (ev b) fun b => pickA c a b
  | .build t parts => match evp ev parts.toList with
    | none => none
    | some ps => buildA P t ps
  | .nilCheck x => ap1 (ev x) nilCheckA
  | .binOp op t x y _ => ap1 (ev x) fun a => ap1 (ev y) fun b => binA P op t (isCst x || isCst y) a b
  | .unOp op _ x => ap1 (ev x) (unA op)
  | .convert s d x => ap1 (ev x) (convA P s d)
  | .makeInterface t x => ap1 (ev x) (mkIfcA P t)
  | .makeFunc (.func f) first captured => match evs ev first.toList with
    | none => none
    | some a => match evs ev captured.toList with
      | none => none
      | some b => some (.fn (.func f) a b)
  | .slice t x lo hi mx => ap1 (ev x) fun a => sliceA P t ev a lo hi mx
  | .fieldAddr s x f => ap1 (ev x) fun a => fieldAddrA P s a f
  | .field s x f => ap1 (ev x) fun a => fieldA P s a f
  | .indexAddr t x i => ap1 (ev x) fun a => ap1 (ev i) fun i => indexAddrA P t a i
  | .index t x i => ap1 (ev x) fun a => ap1 (ev i) fun i => indexA P t a i
  | .extract x i => ap1 (ev x) fun a => extA a i
  | .typeAssert x _ asserted ok => ap1 (ev x) fun a => assertA P a asserted ok
  | .call c => match c.callee with
    | .builtin .len => match c.argTypes.toList, c.args.toList with
      | [t], [x] => ap1 (ev x) (lenA P t)
      | _, _ => none
    | .builtin .min => match c.args.toList with
      | [x, y] => ap1 (ev x) fun a => ap1 (ev y) fun b => mnA a b
      | _ => none
    | .builtin .max => match c.args.toList with
      | [x, y] => ap1 (ev x) fun a => ap1 (ev y) fun b => mxA a b
      | _ => none
    | _ => none
  | _ => none

theorem ap1_some {o : Option AV} {f : AV → Option AV} {v : AV} (h : ap1 o f = some v) : ∃ u, o = some u ∧ f u = some v := by
  cases o with
  | none => cases h
  | some u => exact ⟨u, rfl, h⟩

section
variable {P : Program} {σ : Sg}

theorem nth_toList {α : Type} (a : Array α) (n : Nat) : nth a.toList n = a[n]? := by rw [nth_eq]; simp

theorem fieldAddr_run {s : TypeId} {x v : AV} {f : Nat} (h : fieldAddrA P s x f = some v) {x' : Value} (hx : VR σ x x') (w : World) :
    ∃ v', (Instr.fieldAt s x' f).run P w = .ok v' w ∧ VR σ v v' := by
  unfold fieldAddrA at h
  split at h
  · cases h
  · rename_i i hi
    have hu := ty_run hi w
    split at h
    · rename_i fs b g off ext hd
      rw [hd] at hu
      cases hx with | ptr hσ he hn =>
      split at h
      · cases h
      · rename_i fd hfd
        rw [nth_toList] at hfd
        split at h
        · cases h
        · rename_i fi hfi
          rw [Bool.cond_eq_ite] at h
          split at h
          · rename_i hb
            simp only [Bool.and_eq_true, Bool.not_eq_true', nat_beq, decide_eq_false_iff_not, Nat.ble_eq] at hb
            cases h
            refine ⟨_, ?_, .ptr hσ (by omega) hn⟩
            simp [Instr.fieldAt, hu, hfd, Instr.sureAddr, fieldPlace, ty_size hfi, hb.1, addr_add]
          · cases h
    · cases h

theorem field_run {s : TypeId} {x v : AV} {f : Nat} (h : fieldA P s x f = some v) {x' : Value} (hx : VR σ x x') (w : World) :
    ∃ v', (Instr.field s x' f).run P w = .ok v' w ∧ VR σ v v' := by
  unfold fieldA at h
  split at h
  · cases h
  · rename_i i hi
    have hu := ty_run hi w
    split at h
    · rename_i fs l hd
      rw [hd] at hu
      cases hx with | agg hl o1 =>
      split at h
      · cases h
      · rename_i fd hfd
        rw [nth_toList] at hfd
        obtain ⟨v', hr, hv⟩ := part_run h hl o1 w
        refine ⟨v', ?_, hv⟩
        simp [Instr.field, hu, hfd, asAgg, hr]
    · cases h

theorem indexAddr_run {t : TypeId} {x i v : AV} (h : indexAddrA P t x i = some v) {x' i' : Value} (hx : VR σ x x') (hi : VR σ i i') (w : World) :
    ∃ v', (Instr.indexAt t x' i').run P w = .ok v' w ∧ VR σ v v' := by
  unfold indexAddrA at h
  split at h
  · rename_i ti n hti hn
    have hu := ty_run hti w
    obtain ⟨k, rfl⟩ := natOf_vr hn hi
    split at h
    · rename_i e b g off len sz k ex hd
      rw [hd] at hu
      cases hx with | sl hσ he hl hk hnn hN hc hxN =>
      split at h
      · cases h
      · rename_i ei hei
        rw [Bool.cond_eq_ite] at h
        split at h
        · rename_i hb
          simp only [Bool.and_eq_true, nat_beq, nat_blt, decide_eq_true_eq] at hb
          cases h
          have hm : n * sz + sz ≤ k * sz := by
            rw [← Nat.succ_mul]; exact Nat.mul_le_mul_right _ (by omega)
          refine ⟨_, ?_, .ptr hσ (by omega) hnn⟩
          simp [Instr.indexAt, asIntOf, hu, ty_size hei, hb.1, addr_add]
          intro hno; omega
        · cases h
    · rename_i len e b g off ext hd
      rw [hd] at hu
      cases hx with | ptr hσ he hnn =>
      split at h
      · cases h
      · rename_i ei hei
        rw [Bool.cond_eq_ite] at h
        split at h
        · rename_i hb
          simp only [Bool.and_eq_true, Nat.ble_eq, nat_blt, decide_eq_true_eq] at hb
          cases h
          refine ⟨_, ?_, .ptr hσ (by omega) hnn⟩
          simp [Instr.indexAt, asIntOf, hu, ty_size hei, addr_add, Instr.sureAddr]
          intro hno; omega
        · cases h
    · cases h
  · cases h

theorem index_run {t : TypeId} {x i v : AV} (h : indexA P t x i = some v) {x' i' : Value} (hx : VR σ x x') (hi : VR σ i i') (w : World) :
    ∃ v', (Instr.index t x' i').run P w = .ok v' w ∧ VR σ v v' := by
  unfold indexA at h
  split at h
  · rename_i ti n hti hn
    have hu := ty_run hti w
    obtain ⟨k, rfl⟩ := natOf_vr hn hi
    split at h
    · rename_i len e l hd
      rw [hd] at hu
      cases hx with | agg hl o1 =>
      split at h
      · cases h
      · rename_i ei hei
        rw [Bool.cond_eq_ite] at h
        split at h
        · rename_i hb
          rw [nat_blt] at hb
          simp only [decide_eq_true_eq] at hb
          obtain ⟨v', hr, hv⟩ := part_run h hl o1 w
          refine ⟨v', ?_, hv⟩
          simp [Instr.index, asIntOf, hu, ty_size hei, hr]
          intro hno; omega
        · cases h
    · rename_i l hd
      rw [hd] at hu
      cases hx with | str s =>
      split at h
      · cases h
      · rename_i c hc
        cases h
        rw [nth_eq] at hc
        unfold bys at hc
        rw [List.getElem?_map] at hc
        cases hs : s.data.toList[n]? with
        | none => rw [hs] at hc; cases hc
        | some b =>
          rw [hs] at hc
          cases hc
          have hlt : n < s.size := by
            have := (List.getElem?_eq_some_iff.1 hs).1
            simpa using this
          have e : s[n]? = some b := by
            rw [getElem?_pos s n hlt]
            have := (List.getElem?_eq_some_iff.1 hs).2
            rw [← this]; simp; rfl
          refine ⟨.int .u8 (b.toNat : Int), ?_, .int _ _⟩
          simp [Instr.index, asIntOf, hu, e]
    · cases h
  · cases h

theorem assert_run {x v : AV} {xt asserted : TypeId} {ok : Bool} (h : assertA P x asserted ok = some v) {x' : Value} (hx : VR σ x x') (w : World) :
    ∃ v', (Instr.typeAssert x' xt asserted ok).run P w = .ok v' w ∧ VR σ v v' := by
  unfold assertA at h
  split at h
  · rename_i i t u hi
    cases hx with | ifc hu =>
    rename_i u'
    rw [Bool.cond_eq_ite] at h
    split at h
    · rename_i hb
      simp only [Bool.and_eq_true, Bool.not_eq_true', nat_beq, decide_eq_true_eq] at hb
      obtain ⟨hni, rfl⟩ := hb
      have hun := ty_run hi w
      have hrun : (Instr.typeAssert (.iface t u') xt t ok).run P w = .ok (if ok then .tuple #[u', .bool true] else u') w := by
        simp only [Instr.typeAssert, Sem.run_bind, hun, Result.andThen_ok]
        cases hd : i.d <;> first
          | (exfalso; rw [hd] at hni; simp [isIface] at hni; done)
          | (show (if t = t then pure (if ok = true then Value.tuple #[u', .bool true] else u') else _ : Sem Value).run P w = _
             rw [if_pos rfl]; rfl)
      cases h
      cases ok
      · exact ⟨_, hrun, hu⟩
      · exact ⟨_, hrun, .tup (.cons hu (.cons (.bool true) .nil))⟩
    · cases h
  · cases h

theorem len_run {t : TypeId} {x v : AV} (h : lenA P t x = some v) {x' : Value} (hx : VR σ x x') (ty' : TypeId) (w : World) :
    ∃ v', (Builtin.len_ #[t] ty' #[x']).run P w = .ok v' w ∧ VR σ v v' := by
  unfold lenA at h
  split at h
  · cases h
  · rename_i i hi
    have hu := ty_run hi w
    split at h <;> first
      | (rename_i hd; rw [hd] at hu; cases h; cases hx
         refine ⟨_, by simp only [Builtin.len_, List.getElem?_toArray, List.getElem?_cons_zero, Sem.run_bind, hu, Result.andThen_ok]; rfl, ?_⟩
         first
           | exact .int _ _
           | (rw [bys_length]; exact .int _ _))
      | cases h

theorem run_v {α : Type} {s : Sem Value} {w w' : World} {v : Value} (h : s.run P w = .ok v w') : (do pure (Next.value (← s)) : Sem Next).run P w = .ok (.value v) w' := by
  simp [h]

/-- **What an operation that looks at no memory tells is what the model does.** -/
theorem pure_run {ev : Ev} {ρ : Operand → Value} (hr : ER σ ev ρ) {o : Oper} {v : AV} (h : pureOp P ev o.op = some v) (w : World) :
    ∃ v', (execOp ρ o).run P w = .ok (.value v') w ∧ VR σ v v' := by
  obtain ⟨dst, op, typ, pos, after, guard⟩ := o
  have lift : ∀ {s : Sem Value}, (∃ v', s.run P w = .ok v' w ∧ VR σ v v') → ∃ v', (do pure (Next.value (← s)) : Sem Next).run P w = .ok (.value v') w ∧ VR σ v v' := by
    rintro s ⟨v', e, hv⟩
    exact ⟨v', by simp [e], hv⟩
  dsimp only at h
  unfold pureOp at h
  split at h
  · exact ⟨_, rfl, hr _ _ h⟩
  · exact ⟨_, rfl, hr _ _ h⟩
  · -- pick
    rename_i c a b
    obtain ⟨vc, ec, h⟩ := ap1_some h
    obtain ⟨va, ea, h⟩ := ap1_some h
    obtain ⟨vb, eb, h⟩ := ap1_some h
    have hc := hr _ _ ec
    unfold pickA at h
    split at h
    · cases h
      generalize hcv : ρ c = cv at hc
      cases hc
      exact ⟨ρ a, by simp [execOp, hcv, asBool], hr _ _ ea⟩
    · cases h
      generalize hcv : ρ c = cv at hc
      cases hc
      exact ⟨ρ b, by simp [execOp, hcv, asBool], hr _ _ eb⟩
    · cases h
  · -- build
    rename_i t parts
    split at h
    · cases h
    · rename_i ps eps
      obtain ⟨h1, h2⟩ := evp_vr hr eps
      have := build_run h h1 h2 w
      refine lift (s := Instr.build t (parts.map fun (i, x) => (i, ρ x))) ?_
      have e : (parts.map fun (i, x) => (i, ρ x)) = ⟨parts.toList.map fun p => (p.1, ρ p.2)⟩ := by apply Array.ext'; simp
      rw [e]; exact this
  · -- nilCheck
    rename_i x
    obtain ⟨vx, ex, h⟩ := ap1_some h
    have hx := hr _ _ ex
    unfold nilCheckA at h
    split at h
    · cases h
      generalize hcv : ρ x = xv at hx
      cases hx with | ptr h1 h2 h3 => exact ⟨_, by simp [execOp, hcv], .ptr h1 h2 h3⟩
    · cases h
      generalize hcv : ρ x = xv at hx
      cases hx with | fn h1 h2 => exact ⟨_, by simp [execOp, hcv], .fn h1 h2⟩
    · cases h
  · -- binOp
    rename_i op t x y yt
    obtain ⟨a, ea, h⟩ := ap1_some h
    obtain ⟨b, eb, h⟩ := ap1_some h
    exact lift (bin_run h (hr _ _ ea) (hr _ _ eb) w)
  · -- unOp
    rename_i op t x
    obtain ⟨a, ea, h⟩ := ap1_some h
    have hx := hr _ _ ea
    refine lift (s := Op.unary op (ρ x)) ?_
    unfold unA at h
    split at h
    · cases h
      generalize ρ x = xv at hx
      cases hx
      exact ⟨_, rfl, .bool _⟩
    · cases h
      generalize ρ x = xv at hx
      cases hx
      rw [iwrap_eq]
      exact ⟨_, rfl, .int _ _⟩
    · cases h
  · -- convert
    rename_i s d x
    obtain ⟨a, ea, h⟩ := ap1_some h
    have hx := hr _ _ ea
    refine lift (s := convert s d (ρ x)) ?_
    unfold convA at h
    split at h
    · rename_i si di hs hd
      have us := ty_run hs w
      have ud := ty_run hd w
      split at h
      · rename_i hdd
        rw [hdd] at ud
        cases h
        generalize ρ x = xv at hx
        cases hx
        rw [iwrap_eq]
        exact ⟨_, by simp only [convert, Sem.run_bind, us, ud, Result.andThen_ok]; rfl, .int _ _⟩
      · rename_i hdd
        rw [hdd] at ud
        cases h
        generalize ρ x = xv at hx
        cases hx
        exact ⟨_, by simp only [convert, Sem.run_bind, us, ud, Result.andThen_ok]; rfl, .str _⟩
      · cases h
    · cases h
  · -- makeInterface
    rename_i t x
    obtain ⟨a, ea, h⟩ := ap1_some h
    refine lift (s := Instr.makeInterface t (ρ x)) ?_
    unfold mkIfcA at h
    split at h
    · cases h
    · rename_i i hi
      rw [Bool.cond_eq_ite] at h
      split at h
      · cases h
      · rename_i hni
        cases h
        refine ⟨.iface t (ρ x), ?_, .ifc (hr _ _ ea)⟩
        simp only [Instr.makeInterface, Sem.run_bind, ty_run hi w, Result.andThen_ok]
        cases hd : i.d <;> first
          | (rw [hd] at hni; exact absurd rfl hni)
          | rfl
  · -- makeFunc
    rename_i f first captured
    split at h
    · cases h
    · rename_i a ea
      split at h
      · cases h
      · rename_i b eb
        cases h
        refine ⟨.func (.func f) ⟨first.toList.map ρ⟩ ⟨captured.toList.map ρ⟩, ?_, .fn (evs_vr hr ea) (evs_vr hr eb)⟩
        have e1 : first.map ρ = ⟨first.toList.map ρ⟩ := by apply Array.ext'; simp
        have e2 : captured.map ρ = ⟨captured.toList.map ρ⟩ := by apply Array.ext'; simp
        simp only [execOp, Instr.makeFunc, e1, e2]
        rfl
  · -- slice
    rename_i t x lo hi mx
    obtain ⟨a, ea, h⟩ := ap1_some h
    exact lift (slice_run hr h (hr _ _ ea) w)
  · rename_i s x f
    obtain ⟨a, ea, h⟩ := ap1_some h
    exact lift (fieldAddr_run h (hr _ _ ea) w)
  · rename_i s x f
    obtain ⟨a, ea, h⟩ := ap1_some h
    exact lift (field_run h (hr _ _ ea) w)
  · rename_i t x i
    obtain ⟨a, ea, h⟩ := ap1_some h
    obtain ⟨b, eb, h⟩ := ap1_some h
    exact lift (indexAddr_run h (hr _ _ ea) (hr _ _ eb) w)
  · rename_i t x i
    obtain ⟨a, ea, h⟩ := ap1_some h
    obtain ⟨b, eb, h⟩ := ap1_some h
    exact lift (index_run h (hr _ _ ea) (hr _ _ eb) w)
  · -- extract
    rename_i x i
    obtain ⟨a, ea, h⟩ := ap1_some h
    have hx := hr _ _ ea
    refine lift (s := Instr.extract (ρ x) i) ?_
    unfold extA at h
    split at h
    · generalize ρ x = xv at hx
      cases hx with | tup hl =>
      rw [nth_eq] at h
      obtain ⟨v', e, hv⟩ := hl.get h
      exact ⟨v', by simp [Instr.extract, e], hv⟩
    · cases h
  · rename_i x xt asserted ok
    obtain ⟨a, ea, h⟩ := ap1_some h
    exact lift (assert_run h (hr _ _ ea) w)
  · -- calls of builtins
    rename_i c
    obtain ⟨callee, args, argTypes⟩ := c
    dsimp only at h
    split at h
    · split at h
      · rename_i t x hat har
        obtain ⟨a, ea, h⟩ := ap1_some h
        have e1 : argTypes = #[t] := by apply Array.ext'; simp [hat]
        have e2 : args = #[x] := by apply Array.ext'; simp [har]
        subst e1 e2
        obtain ⟨v', e, hv⟩ := len_run h (hr _ _ ea) typ w
        exact ⟨v', by simp [execOp, resolve, invoke, builtin, e], hv⟩
      · cases h
    · split at h
      · rename_i x y har
        obtain ⟨a, ea, h⟩ := ap1_some h
        obtain ⟨b, eb, h⟩ := ap1_some h
        have e2 : args = #[x, y] := by apply Array.ext'; simp [har]
        subst e2
        have hx := hr _ _ ea
        have hy := hr _ _ eb
        unfold mnA at h
        split at h
        · cases h
          generalize hxv : ρ x = xv at hx
          generalize hyv : ρ y = yv at hy
          cases hx; cases hy
          refine ⟨_, by simp [execOp, resolve, invoke, builtin, Builtin.min_, Builtin.min2, hxv, hyv]; rfl, ?_⟩
          rw [ilt_eq, Bool.cond_eq_ite]
          simp only [decide_eq_true_eq]
          exact .int _ _
        · cases h
      · cases h
    · split at h
      · rename_i x y har
        obtain ⟨a, ea, h⟩ := ap1_some h
        obtain ⟨b, eb, h⟩ := ap1_some h
        have e2 : args = #[x, y] := by apply Array.ext'; simp [har]
        subst e2
        have hx := hr _ _ ea
        have hy := hr _ _ eb
        unfold mxA at h
        split at h
        · cases h
          generalize hxv : ρ x = xv at hx
          generalize hyv : ρ y = yv at hy
          cases hx; cases hy
          refine ⟨_, by simp [execOp, resolve, invoke, builtin, Builtin.max_, Builtin.max2, hxv, hyv]; rfl, ?_⟩
          rw [ilt_eq, Bool.cond_eq_ite]
          simp only [decide_eq_true_eq]
          exact .int _ _
        · cases h
      · cases h
    · cases h
  · cases h
end
end Go.Proofs.YtoiojhmfndmflaaGreatDoor.Rex

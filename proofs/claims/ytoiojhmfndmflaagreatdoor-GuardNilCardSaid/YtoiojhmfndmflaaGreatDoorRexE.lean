/-
  Rex, part E: the other operations that look at no memory; all of them in one function, and what the model does.
-/
import Derived.Test.YtoiojhmfndmflaaGreatDoorRexD
namespace Go.Proofs.YtoiojhmfndmflaaGreatDoor.Rex
open Go

/-! ## Aggregates -/

/-- The cells from a place on become others. -/
def spl (l : List AV) (off : Nat) (new : List AV) : List AV := l.take off ++ (new ++ l.drop (off + new.length))

theorem foldl_set_list {α : Type} : ∀ (new : List α) (l : List α) (off j : Nat), off + j + new.length ≤ l.length →
    (new.zipIdx j).foldl (fun cs p => cs.set (off + p.2) p.1) l = l.take (off + j) ++ (new ++ l.drop (off + j + new.length))
  | [], l, off, j, _ => by simp
  | c :: new, l, off, j, h => by
    simp only [List.zipIdx_cons, List.foldl_cons, List.length_cons] at h ⊢
    rw [foldl_set_list new (l.set (off + j) c) off (j + 1) (by simp; omega)]
    have h1 : off + j < l.length := by omega
    rw [show off + (j + 1) = off + j + 1 from by omega, show off + j + 1 + new.length = off + j + (new.length + 1) from by omega]
    rw [List.drop_set, if_pos (by omega)]
    have : (l.set (off + j) c).take (off + j + 1) = l.take (off + j) ++ [c] := by
      rw [List.take_succ_eq_append_getElem (by simpa using h1)]
      simp only [List.take_set, List.getElem_set_self]
      rw [List.set_eq_of_length_le (by simp; omega)]
    rw [this, List.append_assoc]
    rfl

theorem foldl_toList {α : Type} (new : List (α × Nat)) (off : Nat) : ∀ (a : Array α),
    (new.foldl (fun cs p => cs.setIfInBounds (off + p.2) p.1) a).toList = new.foldl (fun cs p => cs.set (off + p.2) p.1) a.toList := by
  induction new with
  | nil => intro a; rfl
  | cons p new ih => intro a; simp [List.foldl_cons, ih]

/-- No tuple. -/
def AV.nt : AV → Bool
  | .tup _ => false
  | _ => true
theorem cells_one {σ : Sg} {v : AV} {v' : Value} (h : VR σ v v') (hn : v.nt = true) : ∀ u ∈ v.cells, u.one = true := by
  cases h <;> first
    | assumption
    | (intro u hu; rcases List.mem_cons.1 hu with rfl | hu
       · rfl
       · cases hu)
    | cases hn
theorem spl_one {l new : List AV} {off : Nat} (hl : ∀ u ∈ l, u.one = true) (hn : ∀ u ∈ new, u.one = true) : ∀ u ∈ spl l off new, u.one = true := by
  intro u hu
  unfold spl at hu
  rcases List.mem_append.1 hu with hu | hu
  · exact hl u (List.mem_of_mem_take hu)
  · rcases List.mem_append.1 hu with hu | hu
    · exact hn u hu
    · exact hl u (List.mem_of_mem_drop hu)

def fillA (place : Nat → Option (Nat × Nat)) : List AV → List (Nat × AV) → Option (List AV)
  | cells, [] => some cells
  | cells, (i, v) :: rest =>
    match place i with
    | none => none
    | some (off, size) => bif v.nt && Nat.beq v.cells.length size && Nat.ble (off + size) cells.length then fillA place (spl cells off v.cells) rest else none

theorem fill_run {σ : Sg} {place : Nat → Option (Nat × Nat)} : ∀ {ps : List (Nat × AV)} {ps' : List (Nat × Value)} {cells r : List AV} {cells' : List Value},
    fillA place cells ps = some r → (ps.map (·.1) = ps'.map (·.1)) → VRs σ (ps.map (·.2)) (ps'.map (·.2)) → VRs σ cells cells' → (∀ u ∈ cells, u.one = true) →
    ∃ r', Instr.fill place ⟨cells'⟩ ps' = some ⟨r'⟩ ∧ VRs σ r r' ∧ (∀ u ∈ r, u.one = true)
  | [], ps', cells, r, cells', h, h1, _, hc, ho => by
    cases ps' with
    | nil => cases h; exact ⟨cells', rfl, hc, ho⟩
    | cons => simp at h1
  | (i, v) :: ps, ps', cells, r, cells', h, h1, h2, hc, ho => by
    cases ps' with
    | nil => simp at h1
    | cons q ps' =>
      obtain ⟨j, v'⟩ := q
      simp only [List.map_cons, List.cons.injEq] at h1
      obtain ⟨rfl, h1⟩ := h1
      simp only [List.map_cons] at h2
      cases h2 with | cons hv h2 =>
      simp only [fillA] at h
      split at h
      · cases h
      · rename_i off size hp
        rw [Bool.cond_eq_ite] at h
        split at h
        · rename_i hb
          simp only [Bool.and_eq_true, nat_beq, decide_eq_true_eq, Nat.ble_eq] at hb
          obtain ⟨⟨hnt, hb1⟩, hb2⟩ := hb
          have hb := And.intro hb1 hb2
          have hvc := hv.cells
          have hl := hvc.length
          have hcl := hc.length
          have hsz : v'.cells.size = size := by rw [← hb.1, hl]; simp
          have e : (v'.cells.zipIdx.foldl (fun cs (c, j) => cs.setIfInBounds (off + j) c) (⟨cells'⟩ : Array Value)) = ⟨cells'.take off ++ (v'.cells.toList ++ cells'.drop (off + v'.cells.toList.length))⟩ := by
            apply Array.ext'
            rw [← Array.foldl_toList]
            have := foldl_toList v'.cells.zipIdx.toList off ⟨cells'⟩
            refine Eq.trans this ?_
            have hz : v'.cells.zipIdx.toList = v'.cells.toList.zipIdx 0 := by simp
            rw [hz]
            have := foldl_set_list v'.cells.toList cells' off 0 (by simp; omega)
            simpa using this
          have hsp : VRs σ (spl cells off v.cells) (cells'.take off ++ (v'.cells.toList ++ cells'.drop (off + v'.cells.toList.length))) := by
            unfold spl
            rw [← hl]
            exact (hc.take off).append (hvc.append (hc.drop _))
          obtain ⟨r', hr, hvr⟩ := fill_run h h1 h2 hsp (spl_one ho (cells_one hv hnt))
          refine ⟨r', ?_, hvr⟩
          have hno : ¬ (v'.cells.size ≠ size || off + v'.cells.size > cells'.length) = true := by
            simp only [hsz, ne_eq, not_true, decide_false, Bool.false_or, decide_eq_true_eq]
            omega
          simp only [Instr.fill, hp]
          rw [if_neg (by simpa using hno)]
          rw [e]; exact hr
        · cases h

/-- Where a struct's fields lie (closed: the kernel works it out once). -/
def placesF (P : Program) : List Field → Option (List (Nat × Nat))
  | [] => some []
  | f :: fs => match ty P f.type with
    | none => none
    | some i => match placesF P fs with
      | none => none
      | some r => some ((f.offset, i.size) :: r)
def places (P : Program) (t : TypeId) : Option (List (Nat × Nat)) :=
  match ty P t with
  | none => none
  | some i => match i.d with
    | .struct fs => placesF P fs.toList
    | _ => none

theorem placesF_run {P : Program} : ∀ {fs : List Field} {r : List (Nat × Nat)}, placesF P fs = some r → ∀ w,
    (fs.mapM (fun f => do pure (f.offset, ← sizeOf f.type) : Field → Sem (Nat × Nat))).run P w = .ok r w
  | [], r, h, w => by cases h; simp
  | f :: fs, r, h, w => by
    simp only [placesF] at h
    split at h
    · cases h
    · rename_i i hi
      split at h
      · cases h
      · rename_i r' hr
        cases h
        have ih := placesF_run hr w
        rw [List.mapM_cons]
        simp only [Sem.run_bind, ty_size hi, Result.andThen_ok, Sem.run_pure, ih]

def buildA (P : Program) (t : TypeId) (parts : List (Nat × AV)) : Option AV :=
  match ty P t with
  | none => none
  | some i => match i.zero, i.d with
    | some (.agg z), .struct _ => match places P t with
      | none => none
      | some pl => match fillA (nth pl) z parts with
        | none => none
        | some r => some (.agg r)
    | some (.agg z), .array _ e => match ty P e with
      | none => none
      | some ei => match fillA (fun i => some (i * ei.size, ei.size)) z parts with
        | none => none
        | some r => some (.agg r)
    | _, _ => none

def evp (ev : Ev) : List (Nat × Operand) → Option (List (Nat × AV))
  | [] => some []
  | (i, x) :: l => match ev x with
    | none => none
    | some v => match evp ev l with
      | none => none
      | some r => some ((i, v) :: r)
theorem evp_vr {σ : Sg} {ev : Ev} {ρ : Operand → Value} (hr : ER σ ev ρ) : ∀ {l : List (Nat × Operand)} {r : List (Nat × AV)}, evp ev l = some r →
    r.map (·.1) = (l.map fun p => (p.1, ρ p.2)).map (·.1) ∧ VRs σ (r.map (·.2)) ((l.map fun p => (p.1, ρ p.2)).map (·.2))
  | [], r, h => by cases h; exact ⟨rfl, .nil⟩
  | (i, x) :: l, r, h => by
    simp only [evp] at h
    split at h
    · cases h
    · split at h
      · cases h
      · rename_i hv _ r' hr'
        cases h
        obtain ⟨h1, h2⟩ := evp_vr hr hr'
        exact ⟨by simp only [List.map_cons, h1], .cons (hr _ _ hv) h2⟩

theorem build_run {P : Program} {σ : Sg} {t : TypeId} {ps : List (Nat × AV)} {v : AV} (h : buildA P t ps = some v) {ps' : List (Nat × Value)}
    (h1 : ps.map (·.1) = ps'.map (·.1)) (h2 : VRs σ (ps.map (·.2)) (ps'.map (·.2))) (w : World) :
    ∃ v', (Instr.build t ⟨ps'⟩).run P w = .ok v' w ∧ VR σ v v' := by
  unfold buildA at h
  split at h
  · cases h
  · rename_i i hi
    split at h
    · rename_i z fs hz hd
      split at h
      · cases h
      · rename_i pl hpl
        split at h
        · cases h
        · rename_i r hf
          cases h
          obtain ⟨z', rz, oz⟩ := ty_zero hi hz
          have vz : VR σ (.agg z) z' := ofV_vr oz
          cases vz with | agg vz oz1 =>
          have hpl' : placesF P fs.toList = some pl := by
            unfold places at hpl; rw [hi] at hpl; simp only [hd] at hpl; exact hpl
          have hpr := placesF_run hpl' w
          obtain ⟨r', hr', hv, ho⟩ := fill_run (place := nth pl) hf h1 h2 vz oz1
          refine ⟨.agg ⟨r'⟩, ?_, .agg hv ho⟩
          have hu := ty_run hi; rw [hd] at hu
          have hm : (fs.mapM (fun f => do pure (f.offset, ← sizeOf f.type) : Field → Sem (Nat × Nat))).run P w = .ok ⟨pl⟩ w := by
            rw [Array.mapM_eq_mapM_toList]
            rw [Sem.run_map, hpr]; rfl
          have hn : (fun i => (⟨pl⟩ : Array (Nat × Nat))[i]?) = nth pl := by funext i; rw [nth_eq]; show pl.toArray[i]? = _; simp
          simp only [Instr.build, Sem.run_bind, rz, hu, Result.andThen_ok]
          rw [hm]
          simp only [Result.andThen_ok, Value.cells, hn, hr', Sem.run_pure]
    · rename_i z k e hz hd
      split at h
      · cases h
      · rename_i ei hei
        split at h
        · cases h
        · rename_i r hf
          cases h
          obtain ⟨z', rz, oz⟩ := ty_zero hi hz
          have vz : VR σ (.agg z) z' := ofV_vr oz
          cases vz with | agg vz oz1 =>
          obtain ⟨r', hr', hv, ho⟩ := fill_run (place := fun i => some (i * ei.size, ei.size)) hf h1 h2 vz oz1
          refine ⟨.agg ⟨r'⟩, ?_, .agg hv ho⟩
          have hu := ty_run hi; rw [hd] at hu
          simp only [Instr.build, Sem.run_bind, rz, hu, ty_size hei, Result.andThen_ok, Value.cells, hr', Sem.run_pure]
    · cases h

/-! ## Addresses, slices, texts -/

def natOf : AV → Option Nat
  | .int _ (.ofNat n) => some n
  | _ => none
theorem natOf_vr {σ : Sg} {v : AV} {n : Nat} (h : natOf v = some n) {v' : Value} (hv : VR σ v v') : ∃ k, v' = .int k (n : Int) := by
  unfold natOf at h
  split at h
  · cases h; cases hv; exact ⟨_, rfl⟩
  · cases h

/-- A bound that is not told is d. -/
def bnd (ev : Ev) (d : Nat) : Option Operand → Option Nat
  | none => some d
  | some x => match ev x with
    | none => none
    | some v => natOf v

theorem sliceBound_run {P : Program} {k : IntKind} {n y : Nat} {c : BoundsCode} (h : n ≤ y) (w : World) : (Instr.sliceBound (.int k n) y c).run P w = .ok n w := by
  have : (0 : Int) ≤ (n : Int) ∧ (n : Int) ≤ (y : Int) := by omega
  simp [Instr.sliceBound, asIntOf, this]

theorem addr_add (c off n : Nat) : (⟨c, off, none⟩ : Addr).add n = ⟨c, off + n, none⟩ := by
  unfold Addr.add
  split
  · rename_i h; subst h; rfl
  · rfl

def sliceA (P : Program) (t : TypeId) (ev : Ev) (x : AV) (lo hi mx : Option Operand) : Option AV :=
  match ty P t with
  | none => none
  | some i => match i.d, x with
    | .string, .str l =>
      match mx with
      | some _ => none
      | none => match bnd ev l.length hi with
        | none => none
        | some h => match bnd ev 0 lo with
          | none => none
          | some lw => bif Nat.ble lw h && Nat.ble h l.length then some (.str ((l.drop lw).take (h - lw))) else none
    | .slice e, .nsl =>
      match ty P e, bnd ev 0 hi, bnd ev 0 lo, bnd ev 0 mx with
      | some _, some 0, some 0, some 0 => match mx, hi with
        | some _, none => none
        | _, _ => some .nsl
      | _, _, _, _ => none
    | .slice e, .se =>
      match ty P e, bnd ev 0 hi, bnd ev 0 lo, mx with
      | some _, some 0, some 0, none => some .se
      | _, _, _, _ => none
    | .slice e, .sl b g off len sz k ex =>
      match ty P e, bnd ev len hi, bnd ev 0 lo with
      | some ei, some h, some lw =>
        bif Nat.beq ei.size sz && Nat.ble lw h && Nat.ble h k then
          match mx with
          | none =>
            bif ex then some (.sl b g (bif Nat.beq k lw then off else off + lw * sz) (h - lw) sz (k - lw) true)
            else bif Nat.beq lw 0 || Nat.blt lw k then some (.sl b g (off + lw * sz) (h - lw) sz (k - lw) false) else some .se
          | some m => match hi, bnd ev 0 (some m) with
            | some _, some m => bif Nat.ble h m && Nat.ble m k then some (.sl b g (bif Nat.beq m lw then off else off + lw * sz) (h - lw) sz (m - lw) true) else none
            | _, _ => none
        else none
      | _, _, _ => none
    | .array n e, .ptr b g off ext =>
      match ty P e, bnd ev n hi, bnd ev 0 lo, mx with
      | some ei, some h, some lw, none =>
        bif Nat.ble lw h && Nat.ble h n && Nat.ble (n * ei.size) ext then some (.sl b g (bif Nat.beq n lw then off else off + lw * ei.size) (h - lw) ei.size (n - lw) true) else none
      | _, _, _, _ => none
    | _, _ => none

theorem bnd_run {σ : Sg} {ev : Ev} {ρ : Operand → Value} (hr : ER σ ev ρ) {d : Nat} {x : Option Operand} {n : Nat} (h : bnd ev d x = some n) :
    (x = none ∧ n = d) ∨ ∃ o k, x = some o ∧ ρ o = .int k (n : Int) := by
  cases x with
  | none => cases h; exact .inl ⟨rfl, rfl⟩
  | some o =>
    simp only [bnd] at h
    split at h
    · cases h
    · rename_i v hv
      obtain ⟨k, hk⟩ := natOf_vr h (hr _ _ hv)
      exact .inr ⟨o, k, rfl, hk⟩

/-- The bounds of a slice expression, where all of them fit. -/
theorem sliceBounds_run {P : Program} {ρ : Operand → Value} {isSlice : Bool} {len cap l h m : Nat} {lo hi mx : Option Operand}
    (hm : (mx = none ∧ m = cap) ∨ ∃ o k, mx = some o ∧ ρ o = .int k (m : Int)) (hh : (hi = none ∧ h = len ∧ mx = none) ∨ ∃ o k, hi = some o ∧ ρ o = .int k (h : Int))
    (hl : (lo = none ∧ l = 0) ∨ ∃ o k, lo = some o ∧ ρ o = .int k (l : Int)) (h1 : l ≤ h) (h2 : h ≤ m) (h3 : m ≤ cap) (w : World) :
    (Instr.sliceBounds isSlice len cap (lo.map ρ) (hi.map ρ) (mx.map ρ)).run P w = .ok (l, h, m) w := by
  rcases hm with ⟨rfl, rfl⟩ | ⟨mo, mk, rfl, em⟩
  · rcases hh with ⟨rfl, rfl, _⟩ | ⟨ho, hk, rfl, eh⟩
    · rcases hl with ⟨rfl, rfl⟩ | ⟨lo', lk, rfl, el⟩
      · simp [Instr.sliceBounds]
      · simp [Instr.sliceBounds, el, sliceBound_run h1]
    · rcases hl with ⟨rfl, rfl⟩ | ⟨lo', lk, rfl, el⟩
      · simp [Instr.sliceBounds, eh, sliceBound_run h2]
      · simp [Instr.sliceBounds, el, eh, sliceBound_run h1, sliceBound_run h2]
  · rcases hh with ⟨rfl, rfl, hmx⟩ | ⟨ho, hk, rfl, eh⟩
    · cases hmx
    · rcases hl with ⟨rfl, rfl⟩ | ⟨lo', lk, rfl, el⟩
      · simp [Instr.sliceBounds, eh, em, sliceBound_run h2, sliceBound_run h3]
      · simp [Instr.sliceBounds, el, eh, em, sliceBound_run h1, sliceBound_run h2, sliceBound_run h3]

theorem sliceAt_other {t : TypeId} {i : TI} {P : Program} (hi : ty P t = some i) (hn : ∀ n e, i.d ≠ .array n e) (x : Value) (lo hi' mx : Option Value) (w : World) :
    (Instr.sliceAt t x lo hi' mx).run P w = (Instr.slice t x lo hi' mx).run P w := by
  have hu := ty_run hi w
  simp only [Instr.sliceAt, Sem.run_bind, hu, Result.andThen_ok]

theorem slice_run {P : Program} {σ : Sg} {ev : Ev} {ρ : Operand → Value} (hr : ER σ ev ρ) {t : TypeId} {x v : AV} {lo hi mx : Option Operand} (h : sliceA P t ev x lo hi mx = some v)
    {x' : Value} (hx : VR σ x x') (w : World) : ∃ v', (Instr.sliceAt t x' (lo.map ρ) (hi.map ρ) (mx.map ρ)).run P w = .ok v' w ∧ VR σ v v' := by
  unfold sliceA at h
  split at h
  · cases h
  · rename_i i hi'
    have hu := ty_run hi' w
    split at h
    · -- texts
      rename_i l hd
      rw [hd] at hu
      cases hx with | str s =>
      split at h
      · cases h
      · split at h
        · cases h
        · rename_i hh ehh
          split at h
          · cases h
          · rename_i lw elw
            rw [Bool.cond_eq_ite] at h
            split at h
            · rename_i hb
              simp only [Bool.and_eq_true, Nat.ble_eq, bys_length] at hb ehh
              cases h
              have b1 := bnd_run hr ehh
              have b2 := bnd_run hr elw
              refine ⟨.string (s.extract lw hh), ?_, by rw [← bys_extract]; exact .str _⟩
              have hs := sliceBounds_run (P := P) (ρ := ρ) (isSlice := false) (len := s.size) (cap := s.size) (l := lw) (h := hh) (m := s.size) (mx := none) (.inl ⟨rfl, rfl⟩)
                (b1.imp (fun ⟨a, b⟩ => ⟨a, b, rfl⟩) id) b2 hb.1 hb.2 (Nat.le_refl _) w
              simp only [Option.map_none] at hs
              simp only [Instr.sliceAt, Instr.slice, Sem.run_bind, hu, Result.andThen_ok, Option.map_none, Option.isSome_none, Bool.false_eq_true, if_false, Sem.run_pure, hs]
            · cases h
    · -- nil slices
      rename_i e hd
      rw [hd] at hu
      cases hx
      split at h
      · rename_i ei _ _ _ _
        have hei : ty P e = some ei := by assumption
        have b1 := bnd_run hr (by assumption : bnd ev 0 hi = some 0)
        have b2 := bnd_run hr (by assumption : bnd ev 0 lo = some 0)
        have b3 := bnd_run hr (by assumption : bnd ev 0 mx = some 0)
        have hsz := ty_size hei w
        have key : (hi = none → mx = none) → v = .nsl → ∃ v', (Instr.sliceAt t (.slice none 0 0) (lo.map ρ) (hi.map ρ) (mx.map ρ)).run P w = .ok v' w ∧ VR σ v v' := by
          intro hmx hv
          subst hv
          have hs := sliceBounds_run (P := P) (ρ := ρ) (isSlice := true) (len := 0) (cap := 0) (l := 0) (h := 0) (m := 0) b3
            (b1.imp (fun ⟨a, b⟩ => ⟨a, b, hmx a⟩) id) b2 (Nat.le_refl _) (Nat.le_refl _) (Nat.le_refl _) w
          refine ⟨.slice none 0 0, ?_, .nsl⟩
          simp only [Instr.sliceAt, Instr.slice, Sem.run_bind, hu, Result.andThen_ok, hs, hsz, Sem.run_pure]
          rfl
        split at h
        · cases h
        · rename_i hne
          cases h
          refine key (fun e => ?_) rfl
          subst e
          cases mx with
          | none => rfl
          | some m => exact (hne m rfl rfl).elim
      · cases h
    · -- an empty slice of which no more is known
      rename_i e hd
      rw [hd] at hu
      cases hx
      rename_i ad cap'
      split at h
      · rename_i ei _ _ _
        have hei : ty P e = some ei := by assumption
        have b1 := bnd_run hr (by assumption : bnd ev 0 hi = some 0)
        have b2 := bnd_run hr (by assumption : bnd ev 0 lo = some 0)
        have hsz := ty_size hei w
        cases h
        have hs := sliceBounds_run (P := P) (ρ := ρ) (isSlice := true) (len := 0) (cap := cap') (l := 0) (h := 0) (m := cap') (mx := none) (.inl ⟨rfl, rfl⟩)
          (b1.imp (fun ⟨a, b⟩ => ⟨a, b, rfl⟩) id) b2 (Nat.le_refl _) (Nat.zero_le _) (Nat.le_refl _) w
        simp only [Option.map_none] at hs
        refine ⟨_, by simp only [Instr.sliceAt, Instr.slice, Sem.run_bind, hu, Result.andThen_ok, hs, hsz, Sem.run_pure, Option.map_none]; rfl, ?_⟩
        split
        · exact .se
        · exact .se
      · cases h
    · -- slices
      rename_i e b g off len sz k ex hd
      rw [hd] at hu
      cases hx with | sl hσ he hl hk hn hN hc hxN =>
      rename_i c n N cap'
      split at h
      · rename_i ei hh lw _ _ _
        have hei : ty P e = some ei := by assumption
        have b1 := bnd_run hr (by assumption : bnd ev len hi = some hh)
        have b2 := bnd_run hr (by assumption : bnd ev 0 lo = some lw)
        have hsz := ty_size hei w
        rw [Bool.cond_eq_ite] at h
        split at h
        · rename_i hb
          simp only [Bool.and_eq_true, Nat.ble_eq, nat_beq, decide_eq_true_eq] at hb
          obtain ⟨⟨hesz, hlh⟩, hhk⟩ := hb
          rw [hesz] at hsz
          have sub : ∀ m : Nat, lw ≤ m → lw * sz + (m - lw) * sz = m * sz := by
            intro m h1
            rw [← Nat.add_mul]; congr 1; omega
          have mono : ∀ a b : Nat, a ≤ b → a * sz ≤ b * sz := fun a b h => Nat.mul_le_mul_right _ h
          have run : ∀ m : Nat, ((mx = none ∧ m = cap') ∨ ∃ o k, mx = some o ∧ ρ o = .int k (m : Int)) → (hi = none → mx = none) → hh ≤ m → m ≤ cap' →
              (Instr.sliceAt t (.slice (some ⟨c, off, none⟩) len cap') (lo.map ρ) (hi.map ρ) (mx.map ρ)).run P w =
                .ok (.slice (some ⟨c, if m = lw then off else off + lw * sz, none⟩) (hh - lw) (m - lw)) w := by
            intro m hm hmx h2 h3
            have hs := sliceBounds_run (P := P) (ρ := ρ) (isSlice := true) (len := len) (cap := cap') (l := lw) (h := hh) (m := m) hm
              (b1.imp (fun ⟨a, b⟩ => ⟨a, b, hmx a⟩) id) b2 hlh h2 h3 w
            simp only [Instr.sliceAt, Instr.slice, Sem.run_bind, hu, Result.andThen_ok, hs, hsz, Sem.run_pure]
            split
            · rfl
            · simp only [Option.map_some, addr_add]
          -- an exact part of k0 elements' room
          have exact_ : ∀ m : Nat, hh ≤ m → m ≤ k → VR σ (.sl b g (bif Nat.beq m lw then off else off + lw * sz) (hh - lw) sz (m - lw) true)
              (.slice (some ⟨c, if m = lw then off else off + lw * sz, none⟩) (hh - lw) (m - lw)) := by
            intro m h1 h2
            have e1 := sub m (by omega)
            have e2 := mono m k h2
            have e3 := mono m cap' (by omega)
            rw [nat_beq, Bool.cond_eq_ite]
            by_cases hkl : m = lw
            · simp only [hkl, decide_true, if_true]
              subst hkl
              exact .sl hσ (by simp; omega) (by omega) (Nat.le_refl _) hn (by simp; omega) (fun _ => rfl) (fun e => by cases e)
            · simp only [hkl, decide_false, if_false, Bool.false_eq_true]
              exact .sl hσ (by omega) (by omega) (Nat.le_refl _) hn (by omega) (fun _ => rfl) (fun e => by cases e)
          split at h
          · -- no third bound
            have hr1 := run cap' (.inl ⟨rfl, rfl⟩) (fun _ => rfl) (by omega) (Nat.le_refl _)
            cases hex : ex
            · rw [hex, cond_false, Bool.cond_eq_ite] at h
              have hxN := hxN hex
              split at h
              · rename_i hcnd
                cases h
                simp only [Bool.or_eq_true, nat_beq, nat_blt, decide_eq_true_eq] at hcnd
                refine ⟨_, hr1, ?_⟩
                have : (if cap' = lw then off else off + lw * sz) = off + lw * sz := by
                  split
                  · rcases hcnd with h0 | h0
                    · subst h0; simp
                    · omega
                  · rfl
                rw [this]
                have e1 := sub k (by omega)
                have e3 := sub cap' (by omega)
                exact .sl hσ (by omega) (by omega) (by omega) hn (by omega) (fun e => by cases e) (fun _ => by omega)
              · rename_i hcnd
                cases h
                simp only [Bool.or_eq_true, nat_beq, nat_blt, decide_eq_true_eq, not_or] at hcnd
                refine ⟨_, hr1, ?_⟩
                rw [show hh - lw = 0 from by omega]
                exact .se
            · rw [hex, cond_true] at h
              have hck := hc hex
              cases h
              subst hck
              exact ⟨_, hr1, exact_ _ (by omega) (Nat.le_refl _)⟩
          · rename_i mo
            split at h
            · rename_i m emx _
              have b3 := bnd_run hr emx
              rw [Bool.cond_eq_ite] at h
              split at h
              · rename_i hcnd
                simp only [Bool.and_eq_true, Nat.ble_eq] at hcnd
                cases h
                have b3' : ((some mo : Option Operand) = none ∧ m = cap') ∨ ∃ o k, some mo = some o ∧ ρ o = .int k (m : Int) := by
                  rcases b3 with ⟨e, _⟩ | e
                  · cases e
                  · exact .inr e
                exact ⟨_, run m b3' (fun e => by cases e) hcnd.1 (by omega), exact_ m hcnd.1 hcnd.2⟩
              · cases h
            · cases h
        · cases h
      · cases h
    · -- a pointer to an array
      rename_i n e b g off ext hd
      rw [hd] at hu
      cases hx with | ptr hσ he hnN =>
      rename_i c nn N
      split at h
      · rename_i ei hh lw _ _ _
        have hei : ty P e = some ei := by assumption
        have b1 := bnd_run hr (by assumption : bnd ev n hi = some hh)
        have b2 := bnd_run hr (by assumption : bnd ev 0 lo = some lw)
        have hsz := ty_size hei w
        rw [Bool.cond_eq_ite] at h
        split at h
        · rename_i hb
          simp only [Bool.and_eq_true, Nat.ble_eq] at hb
          obtain ⟨⟨hlh, hhn⟩, hext⟩ := hb
          cases h
          have hs := sliceBounds_run (P := P) (ρ := ρ) (isSlice := false) (len := n) (cap := n) (l := lw) (h := hh) (m := n) (mx := none) (.inl ⟨rfl, rfl⟩)
            (b1.imp (fun ⟨a, b⟩ => ⟨a, b, rfl⟩) id) b2 hlh hhn (Nat.le_refl _) w
          simp only [Option.map_none] at hs
          have e2 : lw * ei.size + (hh - lw) * ei.size = hh * ei.size := by rw [← Nat.add_mul]; congr 1; omega
          have e3 : hh * ei.size ≤ n * ei.size := Nat.mul_le_mul_right _ hhn
          have e4 : lw * ei.size + (n - lw) * ei.size = n * ei.size := by rw [← Nat.add_mul]; congr 1; omega
          refine ⟨.slice (some ⟨c, if n = lw then off else off + lw * ei.size, none⟩) (hh - lw) (n - lw), ?_, ?_⟩
          · simp only [Instr.sliceAt, Instr.sureAddr, Sem.run_bind, hu, Result.andThen_ok, hs, hsz, Sem.run_pure, Option.map_none]
            split
            · rfl
            · simp only [addr_add]
          · rw [nat_beq, Bool.cond_eq_ite]
            by_cases hkl : n = lw
            · simp only [hkl, decide_true, if_true]
              exact .sl hσ (by simp; omega) (by omega) (Nat.le_refl _) hnN (by simp; omega) (fun _ => rfl) (fun e => by cases e)
            · simp only [hkl, decide_false, if_false, Bool.false_eq_true]
              exact .sl hσ (by omega) (by omega) (Nat.le_refl _) hnN (by omega) (fun _ => rfl) (fun e => by cases e)
        · cases h
      · cases h
    · cases h
end Go.Proofs.YtoiojhmfndmflaaGreatDoor.Rex

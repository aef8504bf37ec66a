/-
  Rex, part I: operations that make a block; stores.
-/
import Derived.Test.YtoiojhmfndmflaaGreatDoorRexH
namespace Go.Proofs.YtoiojhmfndmflaaGreatDoor.Rex
open Go

theorem fresh_cells {σ : Sg} {n : Nat} (hf : ∀ g, σ n g = none) {w : World} {cs : List AV} {cells : Array Value} {e : TypeId} {lo hi : Nat} (hv : VRs σ cs (cells.toList.take cs.length))
    (h1 : ∀ v ∈ cs, v.one = true) (hl : cs.length ≤ cells.size) (hfr : ∀ i, i < cells.size → ¬ (lo ≤ i ∧ i < hi)) :
    ObR (σ.add n 0 (w.heap.size, cs.length, cells.size)) n (.cells cs cs.length 0 0 0) (newW w (.cells cells e (lo, hi))) := by
  have hle : Sg.le σ (σ.add n 0 (w.heap.size, cs.length, cells.size)) := Sg.le_add (hf 0)
  refine ⟨rfl, Nat.le_refl _, Nat.zero_le _, h1, ⟨_, _, Sg.add_same _ _ _ _⟩, ?_, fun g c n N hg => by omega, ?_⟩
  · intro g c k N hg _ e'
    have : g = 0 := by omega
    subst this
    rw [Sg.add_same] at e'
    cases e'
    refine ⟨Nat.le_refl _, cells, e, lo, hi, push_new _ _, rfl, hl, ?_, hfr⟩
    rw [List.take_of_length_le (Nat.le_refl _)]
    exact hv.mono hle
  · intro g hg
    rw [Sg.add_other _ _ (fun e => by omega)]
    exact hf g

theorem fillA_length {place : Nat → Option (Nat × Nat)} : ∀ {ps : List (Nat × AV)} {cells r : List AV}, fillA place cells ps = some r → r.length = cells.length
  | [], cells, r, h => by cases h; rfl
  | (i, v) :: ps, cells, r, h => by
    simp only [fillA] at h
    split at h
    · cases h
    · rw [Bool.cond_eq_ite] at h
      split at h
      · rename_i hb
        simp only [Bool.and_eq_true, nat_beq, decide_eq_true_eq, Nat.ble_eq] at hb
        rw [fillA_length h]
        unfold spl
        simp
        omega
      · cases h

def repC (n : Nat) (z : List AV) : List AV := (List.replicate n z).flatten

theorem repC_run {σ : Sg} {z : List AV} {z' : Array Value} (hz : VRs σ z z'.toList) (size : Nat) (hs : z.length = size) (n : Nat) :
    VRs σ (repC n z) ((Array.range (n * size)).map fun i => z'[i % z'.size]!).toList := by
  have hz' : z'.size = size := by rw [← hs, hz.length]; simp
  rcases Nat.eq_zero_or_pos size with h0 | hpos
  · have e1 : z = [] := by cases z with | nil => rfl | cons => simp at hs; omega
    subst e1
    rw [h0]
    have : repC n ([] : List AV) = [] := by unfold repC; induction n <;> simp_all [List.replicate_succ]
    rw [this]
    simp
    exact .nil
  · have key : ((Array.range (n * size)).map fun i => z'[i % z'.size]!).toList = (List.replicate n z'.toList).flatten := by
      induction n with
      | zero => simp
      | succ n ih =>
        rw [List.replicate_succ', List.flatten_append, ← ih]
        simp only [Array.toList_map, Array.toList_range, hz', Nat.succ_mul, List.range_add, List.map_append, List.map_map, List.flatten_cons, List.flatten_nil, List.append_nil]
        congr 1
        apply List.ext_getElem
        · simp [hz']
        · intro i h1 h2
          simp only [List.getElem_map, List.getElem_range, Function.comp]
          have hi : i < size := by simpa using h1
          rw [show (n * size + i) % size = i from by rw [Nat.mul_comm, Nat.mul_add_mod]; exact Nat.mod_eq_of_lt hi]
          rw [getElem!_pos z' i (by omega)]
          simp
    rw [key]
    unfold repC
    clear key
    induction n with
    | zero => exact .nil
    | succ n ih => simp only [List.replicate_succ, List.flatten_cons]; exact hz.append ih

def intHint (P : Program) (t : TypeId) (ev : Ev) : Option Operand → Bool
  | none => true
  | some x => match ty P t, ev x with
    | some i, some (.int _ _) => match i.d with
      | .map _ _ => true
      | _ => false
    | _, _ => false

/-- What an operation makes that makes one block: the block, and the value (of the block's name). -/
def allocOp (P : Program) (ev : Ev) (op : Op) : Option (Blk × (Nat → AV)) :=
  match op with
  | .alloc t => match ty P t with
    | none => none
    | some i => match i.zero with
      | none => none
      | some z => bif z.nt && Nat.beq z.cells.length i.size then some (.cells z.cells i.size 0 0 0, fun n => .ptr n 0 0 i.size) else none
  | .box _ x => match ev x with
    | none => none
    | some v => bif v.nt then some (.cells v.cells v.cells.length 0 0 0, fun n => .ptr n 0 0 v.cells.length) else none
  | .buildSlice t len parts => match ty P t, evp ev parts.toList with
    | some i, some ps => match i.d with
      | .slice e => match ty P e with
        | none => none
        | some ei => match ei.zero with
          | none => none
          | some z =>
            bif z.nt && Nat.beq z.cells.length ei.size && Nat.ble (len * ei.size) 16777216 then
              match fillA (fun i => some (i * ei.size, ei.size)) (repC len z.cells) ps with
              | none => none
              | some r => some (.cells r (len * ei.size) 0 0 0, fun n => .sl n 0 0 len ei.size len true)
            else none
      | _ => none
    | _, _ => none
  | .makeMap t r => bif intHint P t ev r then some (.map [] 0, fun n => .map n) else none
  | .range t x => match ty P t, ev x with
    | some i, some (.str l) => match i.d with
      | .string => some (.siter l 0, fun n => .it n)
      | _ => none
    | _, _ => none
  | _ => none

theorem fresh_other {σ : Sg} {n : Nat} (hf : ∀ g, σ n g = none) (r : Nat × Nat × Nat) : ∀ g, 0 < g → (σ.add n 0 r) n g = none := by
  intro g hg
  rw [Sg.add_other _ _ (fun e => by omega)]
  exact hf g

theorem repC_length (n : Nat) (z : List AV) : (repC n z).length = n * z.length := by
  unfold repC
  induction n with
  | zero => simp
  | succ n ih => simp only [List.replicate_succ, List.flatten_cons, List.length_append, ih, Nat.succ_mul]; omega

theorem repC_one {z : List AV} (h : ∀ v ∈ z, v.one = true) (n : Nat) : ∀ v ∈ repC n z, v.one = true := by
  intro v hv
  unfold repC at hv
  obtain ⟨l, hl, hv⟩ := List.mem_flatten.1 hv
  rw [(List.mem_replicate.1 hl).2] at hv
  exact h v hv

theorem no_frozen (k : Nat) : ∀ i, i < k → ¬ (0 ≤ i ∧ i < 0) := fun i _ h => by omega

theorem alloc_run {P : Program} {σ : Sg} {w : World} {ev : Ev} {ρ : Operand → Value} (hr : ER σ ev ρ) {o : Oper} {x : Blk} {f : Nat → AV} (h : allocOp P ev o.op = some (x, f)) :
    ∃ obj L N v', (execOp ρ o).run P w = .ok (.value v') (newW w obj) ∧
      ∀ n, (∀ g, σ n g = none) → VR (σ.add n 0 (w.heap.size, L, N)) (f n) v' ∧ ObR (σ.add n 0 (w.heap.size, L, N)) n x (newW w obj) := by
  obtain ⟨dst, op, typ, pos, after, guard⟩ := o
  dsimp only at h
  unfold allocOp at h
  split at h
  · -- alloc
    rename_i t
    split at h
    · cases h
    · rename_i i hi
      split at h
      · cases h
      · rename_i z hz
        rw [Bool.cond_eq_ite] at h
        split at h
        · rename_i hb
          simp only [Bool.and_eq_true, nat_beq, decide_eq_true_eq] at hb
          obtain ⟨hnt, hlen⟩ := hb
          cases h
          obtain ⟨z', rz, oz⟩ := ty_zero hi hz
          have vz : VR σ z z' := ofV_vr oz
          have vc := vz.cells
          have hl := vc.length
          refine ⟨.cells z'.cells t (0, 0), i.size, i.size, .pointer (some ⟨w.heap.size, 0, none⟩), ?_, ?_⟩
          · simp [execOp, Instr.alloc, rz, newVar, newRow, newW]
          · intro n hf
            have hsz : z'.cells.size = i.size := by rw [← hlen, hl]; simp
            refine ⟨.ptr (Sg.add_same _ _ _ _) (by omega) (Nat.le_refl _), ?_⟩
            have := fresh_cells hf (w := w) (cs := z.cells) (cells := z'.cells) (e := t) (lo := 0) (hi := 0) (by rw [hl, List.take_of_length_le (Nat.le_refl _)]; exact vc) (cells_one vz hnt)
              (by rw [hl]; simp) (no_frozen _)
            rw [hlen, hsz] at this
            exact this
        · cases h
  · -- box
    rename_i t x'
    split at h
    · cases h
    · rename_i v hv
      rw [Bool.cond_eq_ite] at h
      split at h
      · rename_i hnt
        cases h
        have vv := hr _ _ hv
        have vc := vv.cells
        have hl := vc.length
        refine ⟨.cells (ρ x').cells t (0, 0), v.cells.length, (ρ x').cells.size, .pointer (some ⟨w.heap.size, 0, none⟩), ?_, ?_⟩
        · simp [execOp, Instr.box, newVar, newRow, newW]
        · intro n hf
          have hsz : v.cells.length ≤ (ρ x').cells.size := by rw [hl]; simp
          refine ⟨.ptr (Sg.add_same _ _ _ _) (by omega) hsz, ?_⟩
          exact fresh_cells hf (by rw [hl, List.take_of_length_le (Nat.le_refl _)]; exact vc) (cells_one vv hnt) hsz (no_frozen _)
      · cases h
  · -- buildSlice
    rename_i t len parts
    split at h
    · rename_i i ps hi hps
      have hu := ty_run hi w
      split at h
      · rename_i e hd
        rw [hd] at hu
        split at h
        · cases h
        · rename_i ei hei
          split at h
          · cases h
          · rename_i z hz
            rw [Bool.cond_eq_ite] at h
            split at h
            · rename_i hb
              simp only [Bool.and_eq_true, nat_beq, decide_eq_true_eq, Nat.ble_eq] at hb
              obtain ⟨⟨hnt, hlen⟩, hbig⟩ := hb
              split at h
              · cases h
              · rename_i r hfill
                cases h
                obtain ⟨z', rz, oz⟩ := ty_zero hei hz
                have vz : VR σ z z' := ofV_vr oz
                obtain ⟨h1, h2⟩ := evp_vr hr hps
                have vb := repC_run vz.cells ei.size hlen len
                have hbase : ∃ zero : Array Value, ((len * ei.size = 0 ∧ zero = #[]) ∨ (¬ len * ei.size = 0 ∧ zero = z'.cells)) ∧
                    VRs σ (repC len z.cells) ((Array.range (len * ei.size)).map (fun i => zero[i % zero.size]!)).toList := by
                  by_cases h0 : len * ei.size = 0
                  · refine ⟨#[], .inl ⟨h0, rfl⟩, ?_⟩
                    have e0 : repC len z.cells = [] := by
                      apply List.eq_nil_of_length_eq_zero; rw [repC_length, hlen]; exact h0
                    rw [e0, h0]; simp; exact .nil
                  · exact ⟨_, .inr ⟨h0, rfl⟩, vb⟩
                obtain ⟨zero, hzero, vbase⟩ := hbase
                obtain ⟨r', hr', hv, ho⟩ := fill_run (place := fun i => some (i * ei.size, ei.size)) hfill h1 h2 vbase (repC_one (cells_one vz hnt) len)
                have hrl : r.length = len * ei.size := by rw [fillA_length hfill, repC_length, hlen]
                have hrl' := hv.length
                refine ⟨.cells ⟨r'⟩ e (0, 0), len * ei.size, len * ei.size, .slice (some ⟨w.heap.size, 0, none⟩) len len, ?_, ?_⟩
                · have e1 : (parts.map fun (i, x) => (i, ρ x)) = ⟨parts.toList.map fun p => (p.1, ρ p.2)⟩ := by apply Array.ext'; simp
                  have hbig' : ¬ (len * ei.size > 2 ^ 24) := by simp; omega
                  have hr'' : Instr.fill (fun i => some (i * ei.size, ei.size)) ((Array.range (len * ei.size)).map (fun i => zero[i % zero.size]!)) (parts.toList.map fun p => (p.1, ρ p.2)) = some ⟨r'⟩ := hr'
                  rcases hzero with ⟨h0, hz0⟩ | ⟨h0, hz0⟩
                  · rw [hz0] at hr''
                    simp only [execOp, Instr.buildSlice, Sem.run_bind, hu, Result.andThen_ok, ty_size hei, if_neg hbig', e1, if_pos h0, Sem.run_pure, hr'', newRow, run_newObj, newW]
                  · rw [hz0] at hr''
                    simp only [execOp, Instr.buildSlice, Sem.run_bind, hu, Result.andThen_ok, ty_size hei, if_neg hbig', e1, if_neg h0, rz, Sem.run_pure, hr'', newRow, run_newObj, newW]
                · intro n hf
                  refine ⟨.sl (Sg.add_same _ _ _ _) (by omega) (Nat.le_refl _) (Nat.le_refl _) (Nat.le_refl _) (by omega) (fun _ => rfl) (fun e => by cases e), ?_⟩
                  have := fresh_cells hf (w := w) (cs := r) (cells := ⟨r'⟩) (e := e) (lo := 0) (hi := 0) (by rw [hrl', List.take_of_length_le (Nat.le_refl _)]; exact hv) ho (by rw [hrl']; simp) (no_frozen _)
                  rw [hrl, show (⟨r'⟩ : Array Value).size = len * ei.size from by rw [← hrl, hrl']; rfl] at this
                  exact this
            · cases h
      · cases h
    · cases h
  · -- makeMap
    rename_i t r
    rw [Bool.cond_eq_ite] at h
    split at h
    · rename_i hint
      cases h
      refine ⟨.map #[] 0, 0, 0, .map (some w.heap.size), ?_, ?_⟩
      · cases r with
        | none => simp [execOp, Instr.makeMap, newW]
        | some hx =>
          simp only [intHint] at hint
          split at hint
          · rename_i i k m hi hx'
            have hu := ty_run hi w
            have hxx := hr _ _ hx'
            split at hint
            · rename_i kt et hd
              rw [hd] at hu
              generalize hv : ρ hx = v at hxx
              cases hxx
              simp [execOp, Instr.makeMap, hu, hv, asInt, asIntOf, newW]
            · cases hint
          · cases hint
      · intro n hf
        refine ⟨.map (Sg.add_same _ _ _ _), fresh_other hf _, w.heap.size, [], Sg.add_same _ _ _ _, push_new _ _, .nil⟩
    · cases h
  · -- range over a text
    rename_i t x'
    split at h
    · rename_i i l hi hx
      have hu := ty_run hi w
      split at h
      · rename_i hd
        rw [hd] at hu
        cases h
        have hv := hr _ _ hx
        generalize hxv : ρ x' = v at hv
        cases hv with | str s =>
        refine ⟨.stringIter s 0, 0, 0, .pointer (some ⟨w.heap.size, 0, none⟩), ?_, ?_⟩
        · simp [execOp, Instr.range, hu, hxv, newW]
        · intro n hf
          exact ⟨.it (Sg.add_same _ _ _ _), fresh_other hf _, w.heap.size, s, Sg.add_same _ _ _ _, push_new _ _, rfl⟩
      · cases h
    · cases h
  · cases h

/-! ## Stores -/

theorem take_spl_le {α : Type} (l new : List α) {off n : Nat} (h : n ≤ off) (hl : off ≤ l.length) : (l.take off ++ (new ++ l.drop (off + new.length))).take n = l.take n := by
  have : (l.take off).length = off := by simp; omega
  rw [List.take_append, this, show n - off = 0 from by omega, List.take_zero, List.append_nil, List.take_take, Nat.min_eq_left h]

theorem take_spl_ge {α : Type} (l new : List α) {off n : Nat} (h : off + new.length ≤ n) (hl : n ≤ l.length) :
    (l.take off ++ (new ++ l.drop (off + new.length))).take n = l.take off ++ (new ++ (l.take n).drop (off + new.length)) := by
  have e : (l.take off).length = off := by simp; omega
  rw [List.take_append, e, List.take_of_length_le (show (l.take off).length ≤ n by omega), List.take_append, List.take_of_length_le (show new.length ≤ n - off by omega)]
  rw [List.drop_take]
  congr 3
  omega

theorem spl_length {l new : List AV} {off : Nat} (h : off + new.length ≤ l.length) : (spl l off new).length = l.length := by
  unfold spl; simp; omega

/-- **A stretch of a row is written**, by a name of the present generation. -/
theorem row_write {σ : Sg} {b : Nat} {cs : List AV} {len gen wgen pl : Nat} {w : World} (ho : ObR σ b (.cells cs len gen wgen pl) w) {c N : Nat} (hσ : σ b gen = some (c, len, N))
    {cells : Array Value} {e : TypeId} {lo hi : Nat} (hc : w.heap[c]? = some (.cells cells e (lo, hi))) {new : List AV} {new' : List Value} (hn : VRs σ new new') (h1 : ∀ v ∈ new, v.one = true)
    {off : Nat} (hoff : off + new.length ≤ len) :
    ObR σ b (.cells (spl cs off new) len gen (bif Nat.ble pl off then wgen else gen) pl) (setW w c (.cells ⟨cells.toList.take off ++ (new' ++ cells.toList.drop (off + new'.length))⟩ e (lo, hi))) := by
  obtain ⟨h2, h3, h4, h5, _, h7, h8, h9⟩ := ho
  have hlt : c < w.heap.size := (Array.getElem?_eq_some_iff.1 hc).1
  have hnl := hn.length
  obtain ⟨_, cells0, e0, lo0, hi0, q1, q2, q3, q4, q5⟩ := h7 gen c len N (Nat.le_refl _) h3 hσ
  rw [hc] at q1
  cases q1
  have hcl : len ≤ cells.size := by omega
  refine ⟨by rw [spl_length (by omega)]; exact h2, ?_, h4, spl_one h5 h1, ⟨c, N, hσ⟩, ?_, h8, h9⟩
  · cases Nat.ble pl off
    · exact Nat.le_refl _
    · exact h3
  · intro g cg n Ng hg hwg hσg
    have hlater : g = gen ∨ (g < gen ∧ n ≤ off ∧ wgen ≤ g) := by
      rcases Nat.lt_or_ge g gen with hlt' | hge
      · right
        cases hp : Nat.ble pl off
        · rw [hp] at hwg; simp only [cond_false] at hwg; omega
        · rw [hp] at hwg; simp only [cond_true] at hwg
          have := h8 g cg n Ng hlt' hσg
          have := Nat.le_of_ble_eq_true hp
          exact ⟨hlt', by omega, hwg⟩
      · left; omega
    rcases hlater with rfl | ⟨hlt', hno, hwg'⟩
    · rw [hσ] at hσg
      cases hσg
      refine ⟨Nat.le_refl _, _, e, lo, hi, setW_same _ hlt, ?_, q3, ?_, q5⟩
      · rw [← q2]; simp; omega
      · show VRs σ ((spl cs off new).take len) _
        unfold spl
        rw [take_spl_ge cs new hoff (by omega)]
        rw [take_spl_ge cells.toList new' (by omega) (by simpa using hcl)]
        rw [hnl]
        refine VRs.append ?_ (hn.append (q4.drop _))
        have := q4.take off
        rwa [List.take_take, List.take_take, Nat.min_eq_left (by omega)] at this
    · obtain ⟨k1, cells1, e1, lo1, hi1, p1, p2, p3, p4, p5⟩ := h7 g cg n Ng hg hwg' hσg
      refine ⟨k1, ?_⟩
      by_cases hcc : cg = c
      · subst hcc
        rw [hc] at p1
        cases p1
        refine ⟨_, e, lo, hi, setW_same _ hlt, ?_, p3, ?_, p5⟩
        · rw [← p2]; simp; omega
        · show VRs σ ((spl cs off new).take n) _
          unfold spl
          rw [take_spl_le cs new hno (by omega)]
          rw [take_spl_le cells.toList new' hno (by simp; omega)]
          exact p4
      · refine ⟨cells1, e1, lo1, hi1, (setW_other _ _ hcc).trans p1, p2, p3, ?_, p5⟩
        show VRs σ ((spl cs off new).take n) _
        unfold spl
        rw [take_spl_le cs new hno (by omega)]
        exact p4

theorem setW_size (w : World) (c : Nat) (o : Obj) : (setW w c o).heap.size = w.heap.size := by simp [setW]

/-- The whole of it: cells stored at a place of a row, by a name of the present generation. -/
theorem write_run {P : Program} {σ : Sg} {h : Hp} {nx : Nat} {w : World} (hs : SR σ h nx w) {b ver : Nat} {cs : List AV} {len gen wgen pl : Nat}
    (hb : h.at b = some ⟨ver, .cells cs len gen wgen pl⟩) {c n N : Nat} (hσ : σ b gen = some (c, n, N)) {new : List AV} {new' : List Value} (hn : VRs σ new new') (h1 : ∀ v ∈ new, v.one = true)
    {off : Nat} (hoff : off + new.length ≤ len) (hne : new ≠ []) (ver' : Nat) :
    ∃ w', (storeCells ⟨c, off, none⟩ new').run P w = .ok () w' ∧ SR σ (h.set b ⟨ver', .cells (spl cs off new) len gen (bif Nat.ble pl off then wgen else gen) pl⟩) nx w' ∧ Fr nx σ w σ w' := by
  have ho := hs.blk b _ hb
  obtain ⟨c', N', hσ'⟩ := ho.2.2.2.2.1
  rw [hσ] at hσ'
  cases hσ'
  obtain ⟨_, cells, e, lo, hi, q1, q2, q3, q4, q5⟩ := ho.2.2.2.2.2.1 gen c len N (Nat.le_refl _) ho.2.1 hσ
  have hnl := hn.length
  have hne' : new' ≠ [] := by intro e0; subst e0; simp at hnl; exact hne hnl
  have ho1 : ∀ v ∈ new', v.oneCell' = true := by
    intro v hv
    obtain ⟨i, hi', e0⟩ := List.getElem_of_mem hv
    obtain ⟨u, hu, hvu⟩ := hn.get' (List.getElem?_eq_some_iff.2 ⟨hi', e0⟩)
    rw [hvu.one]
    exact h1 u (List.mem_of_getElem? hu)
  have hst := storeCells_run (P := P) new' 0 w c off cells e lo hi q1 (by omega) (fun j hj => q5 j (by omega)) ho1
  rw [if_neg hne'] at hst
  simp only [Nat.add_zero] at hst
  refine ⟨_, hst, ?_, ?_⟩
  · exact hs.upd hσ _ (setW_size _ _ _) (fun c' hc' => setW_other _ _ hc') (row_write ho hσ q1 hn h1 hoff)
  · exact Fr.upd hσ (setW_size _ _ _) (fun c' hc' => setW_other _ _ hc') rfl rfl rfl

/-- A store: which block turns, and into what. -/
def storeA (P : Program) (t : TypeId) (p v : AV) (h : Hp) : Option (Nat × Bk) :=
  match ty P t, p with
  | some i, .ptr b g off ext => match h.at b with
    | some ⟨ver, .cells cs len gen wgen pl⟩ =>
      bif Nat.beq g gen && v.nt && Nat.beq v.cells.length i.size && Nat.ble i.size ext && Nat.ble 1 i.size then
        some (b, ⟨ver + 1, .cells (spl cs off v.cells) len gen (bif Nat.ble pl off then wgen else gen) pl⟩)
      else none
    | _ => none
  | _, _ => none

theorem store_run {P : Program} {σ : Sg} {h : Hp} {nx : Nat} {w : World} (hs : SR σ h nx w) {t : TypeId} {p v : AV} {b : Nat} {x : Bk} (hst : storeA P t p v h = some (b, x)) {p' v' : Value}
    (hp : VR σ p p') (hv : VR σ v v') : ∃ w', (Instr.storeAt t p' v').run P w = .ok () w' ∧ SR σ (h.set b x) nx w' ∧ Fr nx σ w σ w' := by
  unfold storeA at hst
  split at hst
  · rename_i i b' g off ext hi
    cases hp with | ptr hσ he hnN =>
    rename_i c n N
    split at hst
    · rename_i ver cs len gen wgen pl hb
      rw [Bool.cond_eq_ite] at hst
      split at hst
      · rename_i hc
        simp only [Bool.and_eq_true, nat_beq, decide_eq_true_eq, Nat.ble_eq] at hc
        obtain ⟨⟨⟨⟨rfl, hnt⟩, hlen⟩, hext⟩, hpos⟩ := hc
        cases hst
        have ho := hs.blk _ _ hb
        have hn : n ≤ len := (ho.2.2.2.2.2.1 g c n N (Nat.le_refl _) ho.2.1 hσ).1
        obtain ⟨w', h1, h2, h3⟩ := write_run (P := P) hs hb hσ hv.cells (cells_one hv hnt) (off := off) (by omega) (by intro e; rw [e] at hlen; simp at hlen; omega) (ver + 1)
        refine ⟨w', ?_, h2, h3⟩
        have hl := hv.cells.length
        have hsz : v'.cells.size = i.size := by rw [← hlen, hl]; simp
        simp only [Instr.storeAt, Instr.sureAddr, Sem.run_bind, Sem.run_pure, Result.andThen_ok, storeVar, ty_size hi, hsz, ne_eq, not_true, if_false]
        exact h1
      · cases hst
    · cases hst
  · cases hst
end Go.Proofs.YtoiojhmfndmflaaGreatDoor.Rex

/-
  Rex, part G: blocks of memory as the executor knows them; when memory is what it knows; how both change.
-/
import Derived.Laws.Cells
import Derived.Laws.World
import Derived.Test.YtoiojhmfndmflaaGreatDoorRexF
namespace Go.Proofs.YtoiojhmfndmflaaGreatDoor.Rex
open Go

structure Lp where
  st : LoopState
  pend : Option Code
  fn : FuncId
  tm : Tr AV
  nt : Nat
  ps : Array Tmp
  asg : Code
  body : Code
  df : Nat

inductive Blk where
  | cells (cs : List AV) (len gen wgen pl : Nat)
  | map (es : List (AV × AV × Nat)) (clock : Nat)
  | siter (l : List Nat) (pos : Nat)
  | miter (m since : Nat) (seen : List Nat) (st : Nat)
  | loop (l : Lp)
  | dfr (b : Bool)

/-- A block, and how often it has been written. -/
structure Bk where
  v : Nat
  o : Blk

abbrev Hp := Tr Bk

def TmR (σ : Sg) (tm : Tr AV) (nt : Nat) (tmps : Array Value) : Prop :=
  tmps.size = nt ∧ ∀ t v, tm.at t = some v → VR σ v (tmps.getD t undef)

/-- A row of cells: the first n are known. -/
def RowR (σ : Sg) (cs : List AV) (w : World) (c n N : Nat) : Prop :=
  ∃ cells e lo hi, w.heap[c]? = some (.cells cells e (lo, hi)) ∧ cells.size = N ∧ n ≤ N ∧ VRs σ (cs.take n) (cells.toList.take n) ∧ (∀ i, i < N → ¬ (lo ≤ i ∧ i < hi))

inductive ERs (σ : Sg) : List (AV × AV × Nat) → List MapEntry → Prop where
  | nil : ERs σ [] []
  | cons {k v : AV} {n : Nat} {k' v' : Value} {es : List (AV × AV × Nat)} {es' : List MapEntry} (hk : VR σ k k') (hv : VR σ v v') (t : ERs σ es es') :
      ERs σ ((k, v, n) :: es) (⟨k', v', n⟩ :: es')

def ObR (σ : Sg) (b : Nat) : Blk → World → Prop
  | .cells cs len gen wgen pl, w =>
    cs.length = len ∧ wgen ≤ gen ∧ pl ≤ len ∧ (∀ v ∈ cs, v.one = true) ∧ (∃ c N, σ b gen = some (c, len, N)) ∧
      (∀ g c n N, g ≤ gen → wgen ≤ g → σ b g = some (c, n, N) → n ≤ len ∧ RowR σ cs w c n N) ∧
      (∀ g c n N, g < gen → σ b g = some (c, n, N) → n ≤ pl) ∧ (∀ g, gen < g → σ b g = none)
  | .map es clock, w => (∀ g, 0 < g → σ b g = none) ∧ ∃ c es', σ b 0 = some (c, 0, 0) ∧ w.heap[c]? = some (.map ⟨es'⟩ clock) ∧ ERs σ es es'
  | .siter l pos, w => (∀ g, 0 < g → σ b g = none) ∧ ∃ c s, σ b 0 = some (c, 0, 0) ∧ w.heap[c]? = some (.stringIter s pos) ∧ l = bys s
  | .miter m since seen st, w => (∀ g, 0 < g → σ b g = none) ∧ ∃ c m', σ b 0 = some (c, 0, 0) ∧ w.heap[c]? = some (.mapIter (some m') since ⟨seen⟩ st) ∧ σ m 0 = some (m', 0, 0)
  | .loop l, w => (∀ g, 0 < g → σ b g = none) ∧ ∃ c df' tm', σ b 0 = some (c, 0, 0) ∧
      w.heap[c]? = some (.loop { state := l.st, pending := l.pend, fn := l.fn, tmps := tm', params := l.ps, assign := l.asg, body := l.body, defers := df' }) ∧
      TmR σ l.tm l.nt tm' ∧ σ l.df 0 = some (df', 0, 0)
  | .dfr o, w => (∀ g, 0 < g → σ b g = none) ∧ ∃ c, σ b 0 = some (c, 0, 0) ∧ w.heap[c]? = some (.deferred (if o then some [] else none))

structure SR (σ : Sg) (h : Hp) (nx : Nat) (w : World) : Prop where
  blk : ∀ b x, h.at b = some x → ObR σ b x.o w
  inj : ∀ b g r b' g' r', σ b g = some r → σ b' g' = some r' → r.1 = r'.1 → b = b'
  lt : ∀ b g r, σ b g = some r → r.1 < w.heap.size
  nm : ∀ b, nx ≤ b → ∀ g, σ b g = none

/-- From one world, and what is known there, to a later one: what was known has its names still; what was not known stays as it was. -/
structure Fr (nx : Nat) (σ : Sg) (w : World) (σ' : Sg) (w' : World) : Prop where
  le : Sg.le σ σ'
  size : w.heap.size ≤ w'.heap.size
  old : ∀ c, c < w.heap.size → (∀ b g r, σ b g = some r → r.1 ≠ c) → w'.heap[c]? = w.heap[c]?
  new : ∀ b g r, σ' b g = some r → w.heap.size ≤ r.1 ∨ ∃ g0 r0, σ b g0 = some r0 ∧ r0.1 = r.1
  und : ∀ b, b < nx → (∀ g, σ b g = none) → ∀ g, σ' b g = none
  tape : w'.tape = w.tape
  os : w'.os = w.os
  out : w'.output = w.output

theorem Fr.refl (nx : Nat) (σ : Sg) (w : World) : Fr nx σ w σ w :=
  ⟨Sg.le_refl σ, Nat.le_refl _, fun _ _ _ => rfl, fun _ g r h => .inr ⟨g, r, h, rfl⟩, fun _ _ h => h, rfl, rfl, rfl⟩

theorem Fr.trans {nx nx1 : Nat} {σ σ1 σ2 : Sg} {w w1 w2 : World} (h : Fr nx σ w σ1 w1) (h' : Fr nx1 σ1 w1 σ2 w2) (hn : nx ≤ nx1) : Fr nx σ w σ2 w2 where
  le := Sg.le_trans h.le h'.le
  size := Nat.le_trans h.size h'.size
  old := by
    intro c hc hno
    rw [h'.old c (Nat.lt_of_lt_of_le hc h.size) ?_, h.old c hc hno]
    intro b g r e hr
    rcases h.new b g r e with h1 | ⟨g0, r0, e0, hr0⟩
    · omega
    · exact hno b g0 r0 e0 (hr0.trans hr)
  new := by
    intro b g r e
    rcases h'.new b g r e with h1 | ⟨g0, r0, e0, hr0⟩
    · exact .inl (Nat.le_trans h.size h1)
    · rcases h.new b g0 r0 e0 with h2 | ⟨g1, r1, e1, hr1⟩
      · exact .inl (by omega)
      · exact .inr ⟨g1, r1, e1, hr1.trans hr0⟩
  und := fun b hb hno => h'.und b (Nat.lt_of_lt_of_le hb hn) (h.und b hb hno)
  tape := h'.tape.trans h.tape
  os := h'.os.trans h.os
  out := h'.out.trans h.out

theorem TmR.mono {σ σ' : Sg} (hs : Sg.le σ σ') {tm : Tr AV} {nt : Nat} {tmps : Array Value} (h : TmR σ tm nt tmps) : TmR σ' tm nt tmps :=
  ⟨h.1, fun t v e => (h.2 t v e).mono hs⟩
theorem ERs.mono {σ σ' : Sg} (hs : Sg.le σ σ') {es : List (AV × AV × Nat)} {es' : List MapEntry} (h : ERs σ es es') : ERs σ' es es' := by
  induction h with
  | nil => exact .nil
  | cons hk hv _ ih => exact .cons (hk.mono hs) (hv.mono hs) ih
theorem RowR.keep {σ σ' : Sg} (hs : Sg.le σ σ') {cs : List AV} {w w' : World} {c n N : Nat} (hw : w'.heap[c]? = w.heap[c]?) (h : RowR σ cs w c n N) : RowR σ' cs w' c n N := by
  obtain ⟨cells, e, lo, hi, h1, h2, h3, h4, h5⟩ := h
  exact ⟨cells, e, lo, hi, hw.trans h1, h2, h3, h4.mono hs, h5⟩

/-- A block that nothing has touched is known as before. -/
theorem ObR.keep {σ σ' : Sg} {b : Nat} {o : Blk} {w w' : World} (h : ObR σ b o w) (hs : Sg.le σ σ') (hb : ∀ g, σ' b g = σ b g)
    (hw : ∀ g r, σ b g = some r → w'.heap[r.1]? = w.heap[r.1]?) : ObR σ' b o w' := by
  cases o with
  | cells cs len gen wgen pl =>
    obtain ⟨h1, h2, h3, h4, ⟨c, N, h5⟩, h6, h7, h8⟩ := h
    refine ⟨h1, h2, h3, h4, ⟨c, N, (hb gen).trans h5⟩, fun g c n N hg hg' e => ?_, fun g c n N hg e => ?_, fun g hg => (hb g).trans (h8 g hg)⟩
    · rw [hb] at e
      obtain ⟨h9, h10⟩ := h6 g c n N hg hg' e
      exact ⟨h9, h10.keep hs (hw g _ e)⟩
    · rw [hb] at e
      exact h7 g c n N hg e
  | map es clock =>
    obtain ⟨h0, c, es', h1, h2, h3⟩ := h
    exact ⟨fun g hg => (hb g).trans (h0 g hg), c, es', (hb 0).trans h1, (hw 0 _ h1).trans h2, h3.mono hs⟩
  | siter l pos =>
    obtain ⟨h0, c, s, h1, h2, h3⟩ := h
    exact ⟨fun g hg => (hb g).trans (h0 g hg), c, s, (hb 0).trans h1, (hw 0 _ h1).trans h2, h3⟩
  | miter m since seen st =>
    obtain ⟨h0, c, m', h1, h2, h3⟩ := h
    exact ⟨fun g hg => (hb g).trans (h0 g hg), c, m', (hb 0).trans h1, (hw 0 _ h1).trans h2, hs _ _ _ h3⟩
  | loop l =>
    obtain ⟨h0, c, df', tm', h1, h2, h3, h4⟩ := h
    exact ⟨fun g hg => (hb g).trans (h0 g hg), c, df', tm', (hb 0).trans h1, (hw 0 _ h1).trans h2, h3.mono hs, hs _ _ _ h4⟩
  | dfr o =>
    obtain ⟨h0, c, h1, h2⟩ := h
    exact ⟨fun g hg => (hb g).trans (h0 g hg), c, (hb 0).trans h1, (hw 0 _ h1).trans h2⟩

/-! ## A new block -/

def Sg.add (σ : Sg) (b g : Nat) (r : Nat × Nat × Nat) : Sg := fun b' g' => if b' = b ∧ g' = g then some r else σ b' g'
theorem Sg.add_same (σ : Sg) (b g : Nat) (r : Nat × Nat × Nat) : σ.add b g r b g = some r := by simp [Sg.add]
theorem Sg.add_other (σ : Sg) {b g b' g' : Nat} (r : Nat × Nat × Nat) (h : ¬ (b' = b ∧ g' = g)) : σ.add b g r b' g' = σ b' g' := by simp [Sg.add, h]
theorem Sg.le_add {σ : Sg} {b g : Nat} {r : Nat × Nat × Nat} (h : σ b g = none) : Sg.le σ (σ.add b g r) := by
  intro b' g' r' e
  by_cases hb : b' = b ∧ g' = g
  · obtain ⟨rfl, rfl⟩ := hb; rw [h] at e; cases e
  · rw [Sg.add_other _ _ hb]; exact e

theorem push_old (a : Array Obj) (o : Obj) {c : Nat} (h : c < a.size) : (a.push o)[c]? = a[c]? := by
  rw [Array.getElem?_push, if_neg (by omega)]
theorem push_new (a : Array Obj) (o : Obj) : (a.push o)[a.size]? = some o := by simp

/-- The world with one block more. -/
def newW (w : World) (o : Obj) : World := { w with heap := w.heap.push o }

theorem SR.alloc {σ : Sg} {h : Hp} {nx : Nat} {w : World} (hs : SR σ h nx w) {n : Nat} (hf : ∀ g, σ n g = none) (o : Obj) (x : Bk) (len N nx' : Nat) (hnx : nx ≤ nx') (hn : n < nx')
    (ho : ObR (σ.add n 0 (w.heap.size, len, N)) n x.o (newW w o)) :
    SR (σ.add n 0 (w.heap.size, len, N)) (h.set n x) nx' (newW w o) where
  blk := by
    intro b y hy
    rw [Tr.at_set] at hy
    split at hy
    · rename_i e; cases hy; rw [e]; exact ho
    · rename_i hne
      refine (hs.blk b y hy).keep (Sg.le_add (hf 0)) (fun g => Sg.add_other _ _ (fun e => hne e.1)) fun g r e => ?_
      exact push_old _ _ (hs.lt b g r e)
  inj := by
    intro b g r b' g' r' e e' hr
    by_cases h1 : b = n ∧ g = 0
    · by_cases h2 : b' = n ∧ g' = 0
      · rw [h1.1, h2.1]
      · obtain ⟨rfl, rfl⟩ := h1
        rw [Sg.add_same] at e; cases e
        rw [Sg.add_other _ _ h2] at e'
        have := hs.lt _ _ _ e'
        simp only at hr; omega
    · rw [Sg.add_other _ _ h1] at e
      by_cases h2 : b' = n ∧ g' = 0
      · obtain ⟨rfl, rfl⟩ := h2
        rw [Sg.add_same] at e'; cases e'
        have := hs.lt _ _ _ e
        simp only at hr; omega
      · rw [Sg.add_other _ _ h2] at e'
        exact hs.inj _ _ _ _ _ _ e e' hr
  lt := by
    intro b g r e
    show _ < (w.heap.push o).size
    rw [Array.size_push]
    by_cases h1 : b = n ∧ g = 0
    · obtain ⟨rfl, rfl⟩ := h1
      rw [Sg.add_same] at e; cases e; simp
    · rw [Sg.add_other _ _ h1] at e
      have := hs.lt _ _ _ e
      omega
  nm := by
    intro b hb g
    rw [Sg.add_other _ _ (fun e => by omega)]
    exact hs.nm b (by omega) g

theorem Fr.alloc {σ : Sg} {w : World} {n nx : Nat} (hf : ∀ g, σ n g = none) (hn : nx ≤ n) (o : Obj) (len N : Nat) :
    Fr nx σ w (σ.add n 0 (w.heap.size, len, N)) (newW w o) where
  le := Sg.le_add (hf 0)
  size := by show _ ≤ (w.heap.push o).size; simp
  old := fun c hc _ => push_old _ _ hc
  new := by
    intro b g r e
    by_cases h1 : b = n ∧ g = 0
    · obtain ⟨rfl, rfl⟩ := h1
      rw [Sg.add_same] at e; cases e; exact .inl (Nat.le_refl _)
    · rw [Sg.add_other _ _ h1] at e
      exact .inr ⟨g, r, e, rfl⟩
  und := fun b hb hno g => by rw [Sg.add_other _ _ (fun e => by omega)]; exact hno g
  tape := rfl
  os := rfl
  out := rfl

/-! ## A block that is written -/

/-- The world in which one block is another. -/
def setW (w : World) (c : Nat) (o : Obj) : World := { w with heap := w.heap.setIfInBounds c o }

theorem setW_same {w : World} {c : Nat} (o : Obj) (h : c < w.heap.size) : (setW w c o).heap[c]? = some o := by
  simp [setW, h]
theorem setW_other (w : World) {c c' : Nat} (o : Obj) (h : c' ≠ c) : (setW w c o).heap[c']? = w.heap[c']? := by
  simp [setW, Array.getElem?_setIfInBounds, Ne.symm h]

/-- One block of memory turns, and what is known of it. -/
theorem SR.upd {σ : Sg} {h : Hp} {nx : Nat} {w w' : World} (hs : SR σ h nx w) {b g0 : Nat} {r0 : Nat × Nat × Nat} (hb : σ b g0 = some r0) (x : Bk)
    (hsz : w'.heap.size = w.heap.size) (hoth : ∀ c, c ≠ r0.1 → w'.heap[c]? = w.heap[c]?) (ho : ObR σ b x.o w') : SR σ (h.set b x) nx w' where
  blk := by
    intro b' y hy
    rw [Tr.at_set] at hy
    split at hy
    · rename_i e; cases hy; rw [e]; exact ho
    · rename_i hne
      refine (hs.blk b' y hy).keep (Sg.le_refl σ) (fun _ => rfl) fun g r e => hoth _ fun hr => hne ?_
      exact hs.inj _ _ _ _ _ _ e hb hr
  inj := hs.inj
  lt := fun b g r e => by rw [hsz]; exact hs.lt b g r e
  nm := hs.nm

theorem Fr.upd {σ : Sg} {w w' : World} {nx b g0 : Nat} {r0 : Nat × Nat × Nat} (hb : σ b g0 = some r0) (hsz : w'.heap.size = w.heap.size)
    (hoth : ∀ c, c ≠ r0.1 → w'.heap[c]? = w.heap[c]?) (ht : w'.tape = w.tape) (hos : w'.os = w.os) (hout : w'.output = w.output) : Fr nx σ w σ w' where
  le := Sg.le_refl σ
  size := Nat.le_of_eq hsz.symm
  old := fun c _ hno => hoth c fun e => hno b g0 r0 hb e.symm
  new := fun _ g r e => .inr ⟨g, r, e, rfl⟩
  und := fun _ _ h => h
  tape := ht
  os := hos
  out := hout

/-- Memory that only draws has turned in nothing. -/
theorem SR.drawn {σ : Sg} {h : Hp} {nx : Nat} {w : World} (hs : SR σ h nx w) (k : Nat) : SR σ h nx { w with drawn := k } where
  blk := fun b x hx => (hs.blk b x hx).keep (Sg.le_refl σ) (fun _ => rfl) fun _ _ _ => rfl
  inj := hs.inj
  lt := hs.lt
  nm := hs.nm
theorem Fr.drawn {σ : Sg} {w : World} {nx : Nat} (k : Nat) : Fr nx σ w σ { w with drawn := k } :=
  ⟨Sg.le_refl σ, Nat.le_refl _, fun _ _ _ => rfl, fun _ g r h => .inr ⟨g, r, h, rfl⟩, fun _ _ h => h, rfl, rfl, rfl⟩

/-! ## Cells stored -/

theorem cell_of {w : World} {c : Nat} {cells : Array Value} {e : TypeId} {fr : Nat × Nat} (h : w.heap[c]? = some (.cells cells e fr)) (i : Nat) :
    w.cell? ⟨c, i, none⟩ = cells[i]? := by simp [World.cell?, h]
theorem frozen_of {w : World} {c : Nat} {cells : Array Value} {e : TypeId} {lo hi : Nat} (h : w.heap[c]? = some (.cells cells e (lo, hi))) (i : Nat) :
    w.frozen? ⟨c, i, none⟩ = (decide (lo ≤ i) && decide (i < hi)) := by simp [World.frozen?, h]

theorem setCell_heap {w : World} {c : Nat} {cells : Array Value} {e : TypeId} {fr : Nat × Nat} (h : w.heap[c]? = some (.cells cells e fr)) (i : Nat) (v : Value) :
    w.setCell ⟨c, i, none⟩ v = setW w c (.cells (cells.setIfInBounds i v) e fr) := by
  have hlt : c < w.heap.size := (Array.getElem?_eq_some_iff.1 h).1
  have hc : w.heap[c] = .cells cells e fr := (Array.getElem?_eq_some_iff.1 h).2
  unfold World.setCell setW
  congr 1
  apply Array.ext
  · simp
  · intro j h1 h2
    rw [Array.getElem_modify, Array.getElem_setIfInBounds]
    · by_cases hj : c = j
      · subst hj; simp [hc]
      · simp [hj]
    · simpa using h2

theorem setW_setW (w : World) (c : Nat) (o o' : Obj) : setW (setW w c o) c o' = setW w c o' := by
  simp [setW]

theorem storeCells_run {P : Program} : ∀ (new : List Value) (i : Nat) (w : World) (c off : Nat) (cells : Array Value) (e : TypeId) (lo hi : Nat),
    w.heap[c]? = some (.cells cells e (lo, hi)) → off + i + new.length ≤ cells.size → (∀ j, j < cells.size → ¬ (lo ≤ j ∧ j < hi)) → (∀ v ∈ new, v.oneCell' = true) →
    (storeCells ⟨c, off, none⟩ new i).run P w = .ok () (if new = [] then w else setW w c (.cells ⟨cells.toList.take (off + i) ++ (new ++ cells.toList.drop (off + i + new.length))⟩ e (lo, hi)))
  | [], i, w, c, off, cells, e, lo, hi, _, _, _, _ => by simp [storeCells]
  | v :: new, i, w, c, off, cells, e, lo, hi, h, hl, hf, ho => by
    simp only [List.length_cons] at hl
    have hlt : c < w.heap.size := (Array.getElem?_eq_some_iff.1 h).1
    have h1 : (store ((⟨c, off, none⟩ : Addr).add i) v).run P w = .ok () (setW w c (.cells (cells.setIfInBounds (off + i) v) e (lo, hi))) := by
      rw [run_store P w _ v _ (ho v (by simp)), addr_add, cell_of h]
      have : cells[off + i]? = some cells[off + i] := Array.getElem?_eq_getElem (by omega)
      rw [this]
      have hfr : w.frozen? ⟨c, off + i, none⟩ = false := by
        rw [frozen_of h]
        have := hf (off + i) (by omega)
        simp only [Bool.and_eq_false_iff, decide_eq_false_iff_not]
        omega
      simp only [hfr, Bool.false_eq_true, if_false, setCell_heap h]
    have h2 := setW_same (w := w) (c := c) (.cells (cells.setIfInBounds (off + i) v) e (lo, hi)) hlt
    have ih := storeCells_run (P := P) new (i + 1) _ c off _ e lo hi h2 (by simp; omega) (by simpa using hf) (fun u hu => ho u (by simp [hu]))
    simp only [storeCells, Sem.run_bind, h1, Result.andThen_ok, ih]
    have hne : (v :: new) ≠ [] := by simp
    rw [if_neg hne]
    have e1 : (cells.setIfInBounds (off + i) v).toList = cells.toList.set (off + i) v := by simp
    split
    · rename_i hn
      subst hn
      congr 2
      congr 1
      apply Array.ext'
      rw [e1]
      simp only [List.length_cons, List.length_nil]
      rw [List.set_eq_take_append_cons_drop, if_pos (by simp; omega)]
      rfl
    · rw [setW_setW]
      congr 3
      rw [e1]
      congr 1
      have h3 : off + i < cells.toList.length := by simp; omega
      rw [show off + (i + 1) = off + i + 1 from by omega, show off + i + 1 + new.length = off + i + (new.length + 1) from by omega]
      rw [List.drop_set, if_pos (by omega)]
      have : (cells.toList.set (off + i) v).take (off + i + 1) = cells.toList.take (off + i) ++ [v] := by
        rw [List.take_succ_eq_append_getElem (by simpa using h3)]
        simp only [List.take_set, List.getElem_set_self]
        rw [List.set_eq_of_length_le (by simp; omega)]
      rw [this, List.append_assoc]
      rfl
end Go.Proofs.YtoiojhmfndmflaaGreatDoor.Rex

/-
  Rex, part J: append.
-/
import Derived.Laws.Append
import Derived.Test.YtoiojhmfndmflaaGreatDoorRexI
namespace Go.Proofs.YtoiojhmfndmflaaGreatDoor.Rex
open Go

/-- A block gets a name more (a later generation). -/
theorem SR.grow {σ : Sg} {h : Hp} {nx : Nat} {w w' : World} (hs : SR σ h nx w) {b g0 : Nat} {r0 : Nat × Nat × Nat} (hb : σ b g0 = some r0) {g' : Nat} (hg : σ b g' = none)
    (r : Nat × Nat × Nat) (hr : r.1 = r0.1 ∨ w.heap.size ≤ r.1) (x : Bk) (hsz : w.heap.size ≤ w'.heap.size) (hlt : r.1 < w'.heap.size)
    (hoth : ∀ c, c ≠ r0.1 → c < w.heap.size → w'.heap[c]? = w.heap[c]?) (ho : ObR (σ.add b g' r) b x.o w') : SR (σ.add b g' r) (h.set b x) nx w' where
  blk := by
    intro b' y hy
    rw [Tr.at_set] at hy
    split at hy
    · rename_i e; cases hy; rw [e]; exact ho
    · rename_i hne
      refine (hs.blk b' y hy).keep (Sg.le_add hg) (fun g => Sg.add_other _ _ (fun e => hne e.1)) fun g r1 e => hoth _ (fun hr => hne ?_) (hs.lt _ _ _ e)
      exact hs.inj _ _ _ _ _ _ e hb hr
  inj := by
    have own : ∀ b1 g1 r1, σ b1 g1 = some r1 → r1.1 = r.1 → b1 = b := by
      intro b1 g1 r1 e hr1
      rcases hr with h0 | h0
      · exact hs.inj _ _ _ _ _ _ e hb (hr1.trans h0)
      · have := hs.lt _ _ _ e; omega
    intro b1 g1 r1 b2 g2 r2 e1 e2 h12
    by_cases h1 : b1 = b ∧ g1 = g'
    · by_cases h2 : b2 = b ∧ g2 = g'
      · rw [h1.1, h2.1]
      · rw [Sg.add_other _ _ h2] at e2
        obtain ⟨rfl, rfl⟩ := h1
        rw [Sg.add_same] at e1; cases e1
        exact (own _ _ _ e2 h12.symm).symm
    · rw [Sg.add_other _ _ h1] at e1
      by_cases h2 : b2 = b ∧ g2 = g'
      · obtain ⟨rfl, rfl⟩ := h2
        rw [Sg.add_same] at e2; cases e2
        exact own _ _ _ e1 h12
      · rw [Sg.add_other _ _ h2] at e2
        exact hs.inj _ _ _ _ _ _ e1 e2 h12
  lt := by
    intro b1 g1 r1 e1
    by_cases h1 : b1 = b ∧ g1 = g'
    · obtain ⟨rfl, rfl⟩ := h1
      rw [Sg.add_same] at e1; cases e1; exact hlt
    · rw [Sg.add_other _ _ h1] at e1
      exact Nat.lt_of_lt_of_le (hs.lt _ _ _ e1) hsz
  nm := by
    intro b1 hb1 g1
    have hne : b1 ≠ b := by
      rintro rfl
      rw [hs.nm _ hb1] at hb; cases hb
    rw [Sg.add_other _ _ (fun e => hne e.1)]
    exact hs.nm b1 hb1 g1

theorem Fr.grow {σ : Sg} {w w' : World} {nx b g0 g' : Nat} {r0 : Nat × Nat × Nat} (hb : σ b g0 = some r0) (hg : σ b g' = none) (r : Nat × Nat × Nat) (hr : r.1 = r0.1 ∨ w.heap.size ≤ r.1)
    (hsz : w.heap.size ≤ w'.heap.size) (hoth : ∀ c, c ≠ r0.1 → c < w.heap.size → w'.heap[c]? = w.heap[c]?) (ht : w'.tape = w.tape) (hos : w'.os = w.os) (hout : w'.output = w.output) :
    Fr nx σ w (σ.add b g' r) w' where
  le := Sg.le_add hg
  size := hsz
  old := fun c hc hno => hoth c (fun e => hno b g0 r0 hb e.symm) hc
  new := by
    intro b1 g1 r1 e
    by_cases h1 : b1 = b ∧ g1 = g'
    · obtain ⟨rfl, rfl⟩ := h1
      rw [Sg.add_same] at e; cases e
      rcases hr with h0 | h0
      · exact .inr ⟨g0, r0, hb, h0.symm⟩
      · exact .inl h0
    · rw [Sg.add_other _ _ h1] at e
      exact .inr ⟨g1, r1, e, rfl⟩
  und := fun b1 _ hno g1 => by
    have hne : b1 ≠ b := by rintro rfl; rw [hno] at hb; cases hb
    rw [Sg.add_other _ _ (fun e => hne e.1)]; exact hno g1
  tape := ht
  os := hos
  out := hout

/-! ## What is appended -/

/-- How many elements, and which cells. -/
def srcA (x : AV) (size : Nat) (h : Hp) : Option (Nat × List AV) :=
  match x with
  | .nsl => some (0, [])
  | .se => some (0, [])
  | .sl b g off len sz _ _ => match h.at b with
    | some ⟨_, .cells cs _ _ wgen _⟩ => bif Nat.ble wgen g && Nat.beq sz size then some (len, (cs.drop off).take (len * size)) else none
    | _ => none
  | .str l => bif Nat.beq size 1 then some (l.length, l.map fun c => .int .u8 (.ofNat c)) else none
  | _ => none

theorem u8_cells {σ : Sg} (s : List UInt8) : VRs σ ((s.map (·.toNat)).map fun c => AV.int .u8 (.ofNat c)) (s.map fun b => Value.int .u8 b.toNat) := by
  induction s with
  | nil => exact .nil
  | cons b s ih => exact .cons (.int _ _) ih

theorem src_run {P : Program} {σ : Sg} {h : Hp} {nx : Nat} {w : World} (hs : SR σ h nx w) {x : AV} {size n : Nat} {new : List AV} (hx : srcA x size h = some (n, new)) {x' : Value} (hv : VR σ x x') :
    ∃ new', (Builtin.lenOf x').run P w = .ok n w ∧ (∀ k, (Builtin.firstCells size n x').run P { w with drawn := k } = .ok ⟨new'⟩ { w with drawn := k }) ∧ VRs σ new new' ∧ (∀ v ∈ new, v.one = true) ∧
      new.length = n * size := by
  unfold srcA at hx
  split at hx
  · cases hx; cases hv
    exact ⟨[], by simp [Builtin.lenOf], fun k => by simp [Builtin.firstCells], .nil, (fun v hv => by cases hv), by simp⟩
  · cases hx; cases hv
    exact ⟨[], by simp [Builtin.lenOf], fun k => by simp [Builtin.firstCells, loadCells, loadCellsFrom], .nil, (fun v hv => by cases hv), by simp⟩
  · rename_i b g off len sz k ex
    cases hv with | sl hσ he hl hk hn hN hc hxN =>
    rename_i c n0 N cap'
    split at hx
    · rename_i ver cs blen gen wgen pl hb
      have ho := hs.blk b _ hb
      rw [Bool.cond_eq_ite] at hx
      split at hx
      · rename_i hcnd
        simp only [Bool.and_eq_true, nat_beq, decide_eq_true_eq, Nat.ble_eq] at hcnd
        obtain ⟨hw, rfl⟩ := hcnd
        cases hx
        obtain ⟨hn', hrow⟩ := ho.row hw hσ
        have hmono : n * sz ≤ k * sz := Nat.mul_le_mul_right _ hl
        obtain ⟨cells, et, fr, h1, h2, h3, h4⟩ := row_part hrow (off := off) (s := n * sz) (by omega)
        have hcell : ∀ k j u, ((cells.toList.drop off).take (n * sz))[j]? = some u → ({ w with drawn := k } : World).cell? ((⟨c, off, none⟩ : Addr).add j) = some u := by
          intro k j u hj
          rw [addr_add]
          show w.cell? _ = _
          rw [cell_of h1]
          rw [List.getElem?_take] at hj
          split at hj
          · rw [List.getElem?_drop] at hj
            simpa using hj
          · cases hj
        have hlen : ((cells.toList.drop off).take (n * sz)).length = n * sz := by simp; omega
        refine ⟨(cells.toList.drop off).take (n * sz), by simp [Builtin.lenOf], fun k => ?_, h4, fun u hu => ho.2.2.2.1 u (List.mem_of_mem_drop (List.mem_of_mem_take hu)), by rw [h4.length, hlen]⟩
        exact run_firstCells_some (P := P) _ sz n ⟨c, off, none⟩ n cap' _ hlen (hcell k)
      · cases hx
    · cases hx
  · rename_i l
    cases hv with | str s =>
    rw [Bool.cond_eq_ite] at hx
    split at hx
    · rename_i h1
      simp only [nat_beq, decide_eq_true_eq] at h1
      subst h1
      cases hx
      refine ⟨s.data.toList.map fun b => .int .u8 b.toNat, by simp [Builtin.lenOf, bys_length], fun k => ?_, u8_cells _, ?_, by simp⟩
      · have e1 : s.extract 0 (bys s).length = s := by rw [bys_length]; simp
        have e2 : (s.data.map fun b => Value.int .u8 (b.toNat : Int)) = ⟨s.data.toList.map fun b => .int .u8 b.toNat⟩ := by apply Array.ext'; simp
        simp [Builtin.firstCells, e1, e2]
      · intro v hv
        obtain ⟨c, _, rfl⟩ := List.mem_map.1 hv
        rfl
    · cases hx
  · cases hx

/-! ## The two ways of append -/

def isSrcD : TypeDesc → Bool
  | .slice _ | .string => true
  | _ => false

theorem append_room {P : Program} {w : World} {sT xT e : TypeId} {si xi ei : TI} (h1 : ty P sT = some si) (hd : si.d = .slice e) (h2 : ty P xT = some xi) (hx : isSrcD xi.d = true) (h3 : ty P e = some ei)
    {a : Option Addr} {sLen sCap n : Nat} {x : Value} {new : List Value} (hl : (Builtin.lenOf x).run P w = .ok n w) (hf : (Builtin.firstCells ei.size n x).run P w = .ok ⟨new⟩ w)
    (hroom : sLen + n ≤ sCap) (ty' : TypeId) :
    (Builtin.append_ #[sT, xT] ty' #[.slice a sLen sCap, x]).run P w =
      match a with
      | some b => ((storeCells (b.add (sLen * ei.size)) new).run P w).andThen fun _ w' => .ok (.slice a (sLen + n) sCap) w'
      | none => .ok (.slice none (sLen + n) sCap) w := by
  have hu1 := ty_run h1
  rw [hd] at hu1
  have hu2 := ty_run h2
  cases hxd : xi.d <;> first
    | (exfalso; rw [hxd] at hx; simp [isSrcD] at hx; done)
    | (rw [hxd] at hu2
       simp only [Builtin.append_, List.getElem?_toArray, List.getElem?_cons_zero, List.getElem?_cons_succ, Sem.run_bind, hu1, hu2, ty_size h3, Result.andThen_ok, Sem.run_pure, hl, Bool.false_eq_true, if_false,
         Bool.not_false, if_true, hf, hroom]
       cases a <;> simp)

theorem append_grow {P : Program} {w : World} {sT xT e : TypeId} {si xi ei : TI} (h1 : ty P sT = some si) (hd : si.d = .slice e) (h2 : ty P xT = some xi) (hx : isSrcD xi.d = true) (h3 : ty P e = some ei)
    {z : AV} (hz0 : ei.zero = some z) {a : Option Addr} {sLen sCap n : Nat} {x : Value} {old new : List Value} (hl : (Builtin.lenOf x).run P w = .ok n w)
    (hf : ∀ k, (Builtin.firstCells ei.size n x).run P { w with drawn := k } = .ok ⟨new⟩ { w with drawn := k })
    (ho : ∀ k, (Builtin.firstCells ei.size sLen (.slice a sLen sCap)).run P { w with drawn := k } = .ok ⟨old⟩ { w with drawn := k })
    (hroom : sCap < sLen + n) (hbytes : (sLen + n) * ei.bytes ≤ 140737488355328) (hneed : sLen + n ≤ 1000000000) (ty' : TypeId) :
    ∃ (newCap : Nat) (rest : List Value), sLen + n ≤ newCap ∧ rest.length = (newCap - (sLen + n)) * z.cells.length ∧
      (Builtin.append_ #[sT, xT] ty' #[.slice a sLen sCap, x]).run P w =
        .ok (.slice (some ⟨w.heap.size, 0, none⟩) (sLen + n) newCap) (newW { w with drawn := w.drawn + 1 } (.cells ⟨old ++ new ++ rest⟩ e (0, 0))) := by
  have hu1 := ty_run h1
  rw [hd] at hu1
  have hu2 := ty_run h2
  obtain ⟨inf, hinf, hsize, hbyt, _⟩ := ty_info h3
  obtain ⟨z', rz, oz⟩ := ty_zero h3 hz0
  have vz : VR (fun _ _ => none) z z' := ofV_vr oz
  have hfit : ¬ (Builtin.nextslicecap (sLen + n) sCap * inf.bytes > 2 ^ 48) := by
    rw [hbyt]
    have := growslice_fits hroom hbytes
    simp; omega
  have hno : ¬ (sLen + n ≤ sCap) := by omega
  have hmax : ¬ (((sLen + n : Nat) : Int) > IntKind.i64.max ∧ (False ∨ inf.bytes = 0)) := by
    intro ⟨h, _⟩
    simp only [IntKind.max, IntKind.signed, IntKind.bits, if_true] at h
    omega
  let newCap := (Question.appendCap (sLen + n) sCap e).cut (w.tape w.drawn (.appendCap (sLen + n) sCap e))
  refine ⟨newCap, (Builtin.zeroCells z'.cells (newCap - (sLen + n))).toList, ?_, ?_, ?_⟩
  · simp only [newCap, Question.cut]; omega
  · simp [Builtin.zeroCells, vz.cells.length]
  · have hforced : (Question.appendCap (sLen + n) sCap e).forced = false := rfl
    have hf' := hf (w.drawn + 1)
    have ho' := ho (w.drawn + 1)
    cases hxd : xi.d <;> first
      | (exfalso; rw [hxd] at hx; simp [isSrcD] at hx; done)
      | (rw [hxd] at hu2
         simp only [Builtin.append_, List.getElem?_toArray, List.getElem?_cons_zero, List.getElem?_cons_succ, Sem.run_bind, hu1, hu2, ty_size h3, Result.andThen_ok, Sem.run_pure, hl, Bool.false_eq_true, if_false,
           Bool.not_false, if_true, hno, hinf, hfit, hmax, run_choose, hforced, run_askRoom, hf', ho', rz, newRow, run_newObj]
         have earr : ((⟨old⟩ : Array Value) ++ ⟨new⟩ ++ Builtin.zeroCells z'.cells (newCap - (sLen + n))) = ⟨old ++ new ++ (Builtin.zeroCells z'.cells (newCap - (sLen + n))).toList⟩ := by
           apply Array.ext'; simp
         rw [← earr]
         rfl)

inductive ApR where
  | keep (v : AV)
  | wr (v : AV) (b : Nat) (x : Bk)
  | mk (x : Blk) (f : Nat → AV)

/-- What append does. -/
def appendA (P : Program) (sT xT : TypeId) (s x : AV) (h : Hp) : Option ApR :=
  match ty P sT, ty P xT with
  | some si, some xi => match si.d with
    | .slice e => match ty P e with
      | none => none
      | some ei => match ei.zero, srcA x ei.size h with
        | some z, some (n, new) =>
          bif isSrcD xi.d && Nat.beq z.cells.length ei.size && Nat.ble 1 ei.size then
            match s with
            | .nsl => bif Nat.beq n 0 then some (.keep .nsl) else
              bif Nat.ble (n * ei.bytes) 140737488355328 && Nat.ble n 1000000000 then some (.mk (.cells new (n * ei.size) 0 0 0) fun nm => .sl nm 0 0 n ei.size n false) else none
            | .se => bif Nat.beq n 0 then some (.keep .se) else none
            | .sl b g off len sz k ex =>
              bif Nat.beq sz ei.size && Nat.ble ((len + n) * ei.bytes) 140737488355328 && Nat.ble (len + n) 1000000000 then
                bif Nat.beq n 0 then some (.keep (.sl b g off len sz k ex)) else
                bif Nat.ble (len + n) k then
                  match h.at b with
                  | some ⟨ver, .cells cs bl gen wgen pl⟩ =>
                    bif Nat.beq g gen && Nat.ble (off + len * sz + n * sz) bl then
                      some (.wr (.sl b g off (len + n) sz k ex) b ⟨ver + 1, .cells (spl cs (off + len * sz) new) bl gen (bif Nat.ble pl (off + len * sz) then wgen else gen) pl⟩)
                    else none
                  | _ => none
                else bif ex then match srcA (.sl b g off len sz k true) ei.size h with
                    | none => none
                    | some (_, old) => some (.mk (.cells (old ++ new) ((len + n) * ei.size) 0 0 0) fun nm => .sl nm 0 0 (len + n) ei.size (len + n) false)
                else match h.at b with
                  | some ⟨ver, .cells cs bl gen wgen _⟩ =>
                    bif Nat.beq g gen && Nat.beq off 0 && Nat.beq (len * sz) bl then
                      some (.wr (.sl b (gen + 1) 0 (len + n) sz (len + n) false) b ⟨ver + 1, .cells (cs ++ new) ((len + n) * sz) (gen + 1) wgen bl⟩)
                    else none
                  | _ => none
              else none
            | _ => none
          else none
        | _, _ => none
    | _ => none
  | _, _ => none

def ApR.val (nx : Nat) : ApR → AV
  | .keep v | .wr v _ _ => v
  | .mk _ f => f nx
def ApR.hp (h : Hp) (nx : Nat) : ApR → Hp
  | .keep _ => h
  | .wr _ b x => h.set b x
  | .mk x _ => h.set nx ⟨0, x⟩
def ApR.nx (nx : Nat) : ApR → Nat
  | .mk _ _ => nx + 1
  | _ => nx

/-- A row known in part grows at its end, in place or elsewhere. -/
theorem grow_run {P : Program} {σ : Sg} {h : Hp} {nx : Nat} {w : World} (hs : SR σ h nx w) {sT xT e : TypeId} {si xi ei : TI} (h1 : ty P sT = some si) (hd : si.d = .slice e) (h2 : ty P xT = some xi)
    (hx : isSrcD xi.d = true) (h3 : ty P e = some ei) {z : AV} (hz0 : ei.zero = some z) (hzl : z.cells.length = ei.size) (hpos : 1 ≤ ei.size) {b ver gen wgen pl : Nat} {cs : List AV} {len : Nat}
    (hb : h.at b = some ⟨ver, .cells cs (len * ei.size) gen wgen pl⟩) {c n0 N cap' : Nat} (hσ : σ b gen = some (c, n0, N)) (hcapN : cap' * ei.size = N) (hlen : len ≤ cap')
    {n : Nat} {new : List AV} {new' : List Value} {x' : Value} (hl : (Builtin.lenOf x').run P w = .ok n w)
    (hf : ∀ k, (Builtin.firstCells ei.size n x').run P { w with drawn := k } = .ok ⟨new'⟩ { w with drawn := k }) (hn : VRs σ new new') (hn1 : ∀ v ∈ new, v.one = true) (hnl : new.length = n * ei.size)
    (hn0 : n ≠ 0) (hbytes : (len + n) * ei.bytes ≤ 140737488355328) (hneed : len + n ≤ 1000000000) (ty' : TypeId) (ver' : Nat) :
    ∃ σ' v' w', (Builtin.append_ #[sT, xT] ty' #[.slice (some ⟨c, 0, none⟩) len cap', x']).run P w = .ok v' w' ∧
      SR σ' (h.set b ⟨ver', .cells (cs ++ new) ((len + n) * ei.size) (gen + 1) wgen (len * ei.size)⟩) nx w' ∧ Fr nx σ w σ' w' ∧ VR σ' (.sl b (gen + 1) 0 (len + n) ei.size (len + n) false) v' := by
  have hcap : cap' * ei.size ≤ N := Nat.le_of_eq hcapN
  have ho := hs.blk b _ hb
  have ho' := ho
  obtain ⟨q1, q2, q3, q4, ⟨c', N', hσ'⟩, q6, q7, q8⟩ := ho
  rw [hσ] at hσ'
  cases hσ'
  obtain ⟨_, cells, et, lo, hi, r1, r2, r3, r4, r5⟩ := q6 gen c _ N (Nat.le_refl _) q2 hσ
  have hnone : σ b (gen + 1) = none := q8 _ (Nat.lt_succ_self _)
  have hlt : c < w.heap.size := hs.lt _ _ _ hσ
  have hnl' := hn.length
  have hadd : (len + n) * ei.size = len * ei.size + n * ei.size := Nat.add_mul _ _ _
  have hone' : ∀ v ∈ new', v.oneCell' = true := by
    intro v hv
    obtain ⟨i, hi', e0⟩ := List.getElem_of_mem hv
    obtain ⟨u, hu, hvu⟩ := hn.get' (List.getElem?_eq_some_iff.2 ⟨hi', e0⟩)
    rw [hvu.one]
    exact hn1 u (List.mem_of_getElem? hu)
  have hnpos : 1 ≤ n * ei.size := Nat.mul_pos (by omega) hpos
  have htk : (cs ++ new).take (len * ei.size) = cs := by rw [← q1]; simp
  have hlow : ∀ k, k ≤ len * ei.size → (cs ++ new).take k = cs.take k := by
    intro k hk; rw [List.take_append_of_le_length (by omega)]
  by_cases hroom : len + n ≤ cap'
  · -- in place
    have hfit : len * ei.size + n * ei.size ≤ N := by
      rw [← hadd]
      exact Nat.le_trans (Nat.mul_le_mul_right _ hroom) hcap
    have hrun := append_room (P := P) (w := w) h1 hd h2 hx h3 (a := some ⟨c, 0, none⟩) hl (hf w.drawn) hroom ty'
    simp only [addr_add, Nat.zero_add] at hrun
    have hst := storeCells_run (P := P) new' 0 w c (len * ei.size) cells et lo hi r1 (by omega) (fun j hj => r5 j (by omega)) hone'
    rw [if_neg (by intro e0; rw [e0] at hnl'; simp at hnl'; rw [hnl'] at hnl; simp at hnl; omega)] at hst
    simp only [Nat.add_zero] at hst
    rw [hst] at hrun
    simp only [Result.andThen_ok] at hrun
    have hnewrow : ∀ k, k ≤ len * ei.size → ∀ l : List Value, (cells.toList.take (len * ei.size) ++ l).take k = cells.toList.take k := by
      intro k hk l
      rw [List.take_append_of_le_length (by simp; omega), List.take_take, Nat.min_eq_left hk]
    refine ⟨σ.add b (gen + 1) (c, (len + n) * ei.size, N), _, _, hrun, ?_, ?_, ?_⟩
    · refine hs.grow (w' := setW w c (.cells ⟨cells.toList.take (len * ei.size) ++ (new' ++ cells.toList.drop (len * ei.size + new'.length))⟩ et (lo, hi))) hσ hnone (c, (len + n) * ei.size, N) (.inl rfl) _ (by rw [setW_size]; exact Nat.le_refl _) (by rw [setW_size]; exact hlt) (fun c' hc' _ => setW_other _ _ hc') ?_
      refine ⟨by simp [q1, hnl, hadd], by omega, by rw [hadd]; omega, ?_, ⟨c, N, Sg.add_same _ _ _ _⟩, ?_, ?_, ?_⟩
      · intro v hv
        rcases List.mem_append.1 hv with hv | hv
        · exact q4 v hv
        · exact hn1 v hv
      · intro g cg ng Ng hg hwg e0
        by_cases hgg : g = gen + 1
        · subst hgg
          rw [Sg.add_same] at e0
          cases e0
          refine ⟨Nat.le_refl _, _, et, lo, hi, setW_same _ hlt, ?_, by omega, ?_, r5⟩
          · rw [← r2]; simp; omega
          · rw [List.take_of_length_le (by simp [q1, hnl, hadd])]
            have e1 : ((⟨cells.toList.take (len * ei.size) ++ (new' ++ cells.toList.drop (len * ei.size + new'.length))⟩ : Array Value).toList.take ((len + n) * ei.size)) = cells.toList.take (len * ei.size) ++ new' := by
              show (cells.toList.take (len * ei.size) ++ (new' ++ _)).take _ = _
              rw [← List.append_assoc, List.take_append_of_le_length (by simp; omega), List.take_of_length_le (by simp; omega)]
            rw [e1]
            refine VRs.append ?_ (hn.mono (Sg.le_add hnone))
            have := r4.mono (Sg.le_add (r := (c, (len + n) * ei.size, N)) hnone)
            rwa [List.take_of_length_le (by omega)] at this
        · rw [Sg.add_other _ _ (fun e => hgg e.2)] at e0
          obtain ⟨k1, cells1, e1, lo1, hi1, p1, p2, p3, p4, p5⟩ := q6 g cg ng Ng (by omega) hwg e0
          have hlow1 := hlow ng k1
          refine ⟨by rw [hadd]; omega, ?_⟩
          by_cases hcc : cg = c
          · subst hcc
            rw [r1] at p1
            cases p1
            refine ⟨_, et, lo, hi, setW_same _ hlt, ?_, p3, ?_, p5⟩
            · rw [← p2]; simp; omega
            · show VRs _ _ ((cells.toList.take (len * ei.size) ++ _).take ng)
              rw [hlow1, hnewrow ng k1]
              exact p4.mono (Sg.le_add hnone)
          · refine ⟨cells1, e1, lo1, hi1, (setW_other _ _ hcc).trans p1, p2, p3, ?_, p5⟩
            rw [hlow1]
            exact p4.mono (Sg.le_add hnone)
      · intro g cg ng Ng hg e0
        rw [Sg.add_other _ _ (fun e => by omega)] at e0
        by_cases hgg : g = gen
        · subst hgg; rw [hσ] at e0; cases e0; exact Nat.le_refl _
        · have := q7 g cg ng Ng (by omega) e0; omega
      · intro g hg
        rw [Sg.add_other _ _ (fun e => by omega)]
        exact q8 g (by omega)
    · exact Fr.grow hσ hnone (c, (len + n) * ei.size, N) (.inl rfl) (by rw [setW_size]; exact Nat.le_refl _) (fun c' hc' _ => setW_other _ _ hc') rfl rfl rfl
    · exact .sl (Sg.add_same _ _ _ _) (by omega) (Nat.le_refl _) hroom (by omega) (by omega) (fun e => by cases e) (fun _ => by omega)
  · -- elsewhere
    have hold : ∀ k, (Builtin.firstCells ei.size len (.slice (some ⟨c, 0, none⟩) len cap')).run P { w with drawn := k } = .ok ⟨cells.toList.take (len * ei.size)⟩ { w with drawn := k } := by
      intro k
      refine run_firstCells_some (P := P) _ ei.size len ⟨c, 0, none⟩ len cap' _ (by simp; omega) ?_
      intro j u hj
      rw [addr_add]
      show w.cell? _ = _
      rw [cell_of r1]
      rw [List.getElem?_take] at hj
      split at hj
      · simpa using hj
      · cases hj
    obtain ⟨newCap, rest, k1, k2, hrun⟩ := append_grow (P := P) (w := w) h1 hd h2 hx h3 hz0 hl hf hold (by omega) hbytes hneed ty'
    rw [hzl] at k2
    have hsize : (cells.toList.take (len * ei.size) ++ new' ++ rest).length = newCap * ei.size := by
      have e0 : newCap * ei.size = (len + n) * ei.size + (newCap - (len + n)) * ei.size := by rw [← Nat.add_mul]; congr 1; omega
      simp only [List.length_append, List.length_take, k2, e0, hadd, ← hnl', hnl]
      have : min (len * ei.size) cells.toList.length = len * ei.size := by simp; omega
      omega
    have hcapn : (len + n) * ei.size ≤ newCap * ei.size := Nat.mul_le_mul_right _ k1
    refine ⟨σ.add b (gen + 1) (w.heap.size, (len + n) * ei.size, newCap * ei.size), _, _, hrun, ?_, ?_, ?_⟩
    · refine hs.grow hσ hnone _ (.inr (Nat.le_refl _)) _ (by simp [newW]) (by simp [newW]) (fun c' _ hc' => push_old _ _ hc') ?_
      refine ⟨by simp [q1, hnl, hadd], by omega, by rw [hadd]; omega, ?_, ⟨_, _, Sg.add_same _ _ _ _⟩, ?_, ?_, ?_⟩
      · intro v hv
        rcases List.mem_append.1 hv with hv | hv
        · exact q4 v hv
        · exact hn1 v hv
      · intro g cg ng Ng hg hwg e0
        by_cases hgg : g = gen + 1
        · subst hgg
          rw [Sg.add_same] at e0
          cases e0
          refine ⟨Nat.le_refl _, _, e, 0, 0, push_new _ _, ?_, hcapn, ?_, no_frozen _⟩
          · rw [← hsize]; rfl
          · rw [List.take_of_length_le (by simp [q1, hnl, hadd])]
            have e1 : ((⟨cells.toList.take (len * ei.size) ++ new' ++ rest⟩ : Array Value).toList.take ((len + n) * ei.size)) = cells.toList.take (len * ei.size) ++ new' := by
              show (cells.toList.take (len * ei.size) ++ new' ++ rest).take _ = _
              rw [List.take_append_of_le_length (by simp; omega), List.take_of_length_le (by simp; omega)]
            rw [e1]
            refine VRs.append ?_ (hn.mono (Sg.le_add hnone))
            have := r4.mono (Sg.le_add (r := (w.heap.size, (len + n) * ei.size, newCap * ei.size)) hnone)
            rwa [List.take_of_length_le (by omega)] at this
        · rw [Sg.add_other _ _ (fun e => hgg e.2)] at e0
          obtain ⟨j1, cells1, e1, lo1, hi1, p1, p2, p3, p4, p5⟩ := q6 g cg ng Ng (by omega) hwg e0
          have hlow1 := hlow ng j1
          refine ⟨by rw [hadd]; omega, cells1, e1, lo1, hi1, (push_old _ _ (hs.lt _ _ _ e0)).trans p1, p2, p3, ?_, p5⟩
          rw [hlow1]
          exact p4.mono (Sg.le_add hnone)
      · intro g cg ng Ng hg e0
        rw [Sg.add_other _ _ (fun e => by omega)] at e0
        by_cases hgg : g = gen
        · subst hgg; rw [hσ] at e0; cases e0; exact Nat.le_refl _
        · have := q7 g cg ng Ng (by omega) e0; omega
      · intro g hg
        rw [Sg.add_other _ _ (fun e => by omega)]
        exact q8 g (by omega)
    · exact Fr.grow hσ hnone _ (.inr (Nat.le_refl _)) (by simp [newW]) (fun c' _ hc' => push_old _ _ hc') rfl rfl rfl
    · exact .sl (Sg.add_same _ _ _ _) (by omega) (Nat.le_refl _) k1 hcapn (by omega) (fun e => by cases e) (fun _ => by omega)

theorem append_run {P : Program} {σ : Sg} {h : Hp} {nx : Nat} {w : World} (hs : SR σ h nx w) {sT xT : TypeId} {s x : AV} {r : ApR} (ha : appendA P sT xT s x h = some r) {s' x' : Value}
    (vs : VR σ s s') (vx : VR σ x x') (ty' : TypeId) :
    ∃ σ' v' w', (Builtin.append_ #[sT, xT] ty' #[s', x']).run P w = .ok v' w' ∧ SR σ' (r.hp h nx) (r.nx nx) w' ∧ Fr nx σ w σ' w' ∧ VR σ' (r.val nx) v' := by
  unfold appendA at ha
  split at ha
  · rename_i si xi h1 h2
    split at ha
    · rename_i e hd
      split at ha
      · cases ha
      · rename_i ei h3
        split at ha
        · rename_i z n new hz0 hsrc
          obtain ⟨new', hl, hf, hn, hn1, hnl⟩ := src_run (P := P) hs hsrc vx
          rw [Bool.cond_eq_ite] at ha
          split at ha
          · rename_i hc
            simp only [Bool.and_eq_true, nat_beq, decide_eq_true_eq, Nat.ble_eq] at hc
            obtain ⟨⟨hx, hzl⟩, hpos⟩ := hc
            have hnl' := hn.length
            -- nothing is appended
            have nothing : n = 0 → ∀ (a : Option Addr) (sLen sCap : Nat), s' = .slice a sLen sCap → sLen ≤ sCap →
                (Builtin.append_ #[sT, xT] ty' #[s', x']).run P w = .ok s' w := by
              rintro rfl a sLen sCap rfl hle
              have hnew : new' = [] := List.eq_nil_of_length_eq_zero (by rw [← hnl', hnl]; simp)
              subst hnew
              have := append_room (P := P) (w := w) h1 hd h2 hx h3 (a := a) (sLen := sLen) (sCap := sCap) hl (hf w.drawn) (by omega) ty'
              rw [this]
              cases a <;> simp [storeCells]
            -- a new block
            have fresh : n ≠ 0 → ∀ (a : Option Addr) (sLen sCap : Nat) (old : List AV) (old' : List Value), s' = .slice a sLen sCap →
                (∀ k, (Builtin.firstCells ei.size sLen (.slice a sLen sCap)).run P { w with drawn := k } = .ok ⟨old'⟩ { w with drawn := k }) → VRs σ old old' → (∀ v ∈ old, v.one = true) →
                old.length = sLen * ei.size → sCap < sLen + n → (sLen + n) * ei.bytes ≤ 140737488355328 → sLen + n ≤ 1000000000 →
                ∃ σ' v' w', (Builtin.append_ #[sT, xT] ty' #[s', x']).run P w = .ok v' w' ∧ SR σ' (h.set nx ⟨0, .cells (old ++ new) ((sLen + n) * ei.size) 0 0 0⟩) (nx + 1) w' ∧ Fr nx σ w σ' w' ∧
                  VR σ' (.sl nx 0 0 (sLen + n) ei.size (sLen + n) false) v' := by
              rintro hn0 a sLen sCap old old' rfl hold vold old1 oldl hroom hb1 hb2
              obtain ⟨newCap, rest, k1, k2, hrun⟩ := append_grow (P := P) (w := w) h1 hd h2 hx h3 hz0 hl hf hold hroom hb1 hb2 ty'
              rw [hzl] at k2
              have hadd : (sLen + n) * ei.size = sLen * ei.size + n * ei.size := Nat.add_mul _ _ _
              have hol := vold.length
              have hsize : (old' ++ new' ++ rest).length = newCap * ei.size := by
                have e0 : newCap * ei.size = (sLen + n) * ei.size + (newCap - (sLen + n)) * ei.size := by rw [← Nat.add_mul]; congr 1; omega
                simp only [List.length_append, k2, e0, hadd, ← hnl', hnl, ← hol, oldl]
              have hcapn : (sLen + n) * ei.size ≤ newCap * ei.size := Nat.mul_le_mul_right _ k1
              have hun : ∀ g, σ nx g = none := hs.nm nx (Nat.le_refl _)
              have hcl : (old ++ new).length = (sLen + n) * ei.size := by simp [oldl, hnl, hadd]
              have hfresh := fresh_cells hun (w := { w with drawn := w.drawn + 1 }) (cs := old ++ new) (cells := ⟨old' ++ new' ++ rest⟩) (e := e) (lo := 0) (hi := 0)
                (by
                  show VRs σ _ ((old' ++ new' ++ rest).take _)
                  have e1 : (old ++ new).length = (old' ++ new').length := by simp [hol, hnl']
                  rw [e1, List.take_append_of_le_length (Nat.le_refl _), List.take_of_length_le (Nat.le_refl _)]
                  exact vold.append hn)
                (by
                  intro v hv
                  rcases List.mem_append.1 hv with hv | hv
                  · exact old1 v hv
                  · exact hn1 v hv)
                (by show _ ≤ (old' ++ new' ++ rest).length; rw [hcl, hsize]; exact hcapn) (no_frozen _)
              rw [hcl, show (⟨old' ++ new' ++ rest⟩ : Array Value).size = newCap * ei.size from hsize] at hfresh
              refine ⟨_, _, _, hrun, (hs.drawn (w.drawn + 1)).alloc hun _ ⟨0, _⟩ _ _ (nx + 1) (by omega) (by omega) hfresh, (Fr.drawn (w.drawn + 1)).trans (Fr.alloc hun (Nat.le_refl _) _ _ _) (Nat.le_refl _), ?_⟩
              exact .sl (Sg.add_same _ _ _ _) (by omega) (Nat.le_refl _) k1 hcapn (by omega) (fun e => by cases e) (fun _ => by omega)
            -- in place, for sure
            have place : n ≠ 0 → ∀ (b off len c n0 N k cap' : Nat) (ex : Bool) (ver bl gen wgen pl : Nat) (cs : List AV), s' = .slice (some ⟨c, off, none⟩) len cap' → h.at b = some ⟨ver, .cells cs bl gen wgen pl⟩ →
                σ b gen = some (c, n0, N) → off + k * ei.size ≤ n0 → k ≤ cap' → n0 ≤ N → off + cap' * ei.size ≤ N → (ex = true → cap' = k) → (ex = false → off + cap' * ei.size = N) → len + n ≤ k → off + len * ei.size + n * ei.size ≤ bl →
                ∃ σ' v' w', (Builtin.append_ #[sT, xT] ty' #[s', x']).run P w = .ok v' w' ∧
                  SR σ' (h.set b ⟨ver + 1, .cells (spl cs (off + len * ei.size) new) bl gen (bif Nat.ble pl (off + len * ei.size) then wgen else gen) pl⟩) nx w' ∧ Fr nx σ w σ' w' ∧
                  VR σ' (.sl b gen off (len + n) ei.size k ex) v' := by
              rintro h0 b off len c n0 N k cap' ex ver bl gen wgen pl cs rfl hb hσ hk0 hkc hnN hN hcap hxN hroom hfit
              have hrun := append_room (P := P) (w := w) h1 hd h2 hx h3 (a := some ⟨c, off, none⟩) (sLen := len) (sCap := cap') hl (hf w.drawn) (by omega) ty'
              simp only [addr_add] at hrun
              have hnpos : 1 ≤ n * ei.size := Nat.mul_pos (by omega) hpos
              obtain ⟨w', q1, q2, q3⟩ := write_run (P := P) hs hb hσ hn hn1 (off := off + len * ei.size) (by rw [hnl]; exact hfit)
                (by intro e0; rw [e0] at hnl; simp at hnl; omega) (ver + 1)
              rw [q1] at hrun
              simp only [Result.andThen_ok] at hrun
              exact ⟨σ, _, w', hrun, q2, q3, .sl hσ hk0 hroom hkc hnN hN hcap hxN⟩
            split at ha
            · -- nil
              cases vs
              rw [Bool.cond_eq_ite] at ha
              split at ha
              · rename_i h0
                simp only [nat_beq, decide_eq_true_eq] at h0
                cases ha
                exact ⟨σ, _, w, nothing h0 none 0 0 rfl (Nat.le_refl _), hs, Fr.refl _ _ _, .nsl⟩
              · rename_i h0
                simp only [nat_beq, decide_eq_true_eq] at h0
                rw [Bool.cond_eq_ite] at ha
                split at ha
                · rename_i hb
                  simp only [Bool.and_eq_true, Nat.ble_eq] at hb
                  cases ha
                  have := fresh h0 none 0 0 [] [] rfl (fun k => by simp [Builtin.firstCells]) .nil (fun v hv => by cases hv) (by simp) (by omega) (by rw [Nat.zero_add]; exact hb.1) (by omega)
                  simp only [Nat.zero_add, List.nil_append] at this
                  exact this
                · cases ha
            · -- an empty one
              cases vs
              rw [Bool.cond_eq_ite] at ha
              split at ha
              · rename_i h0
                simp only [nat_beq, decide_eq_true_eq] at h0
                cases ha
                exact ⟨σ, _, w, nothing h0 _ 0 _ rfl (Nat.zero_le _), hs, Fr.refl _ _ _, .se⟩
              · cases ha
            · -- a slice
              rename_i b g off len sz k ex
              rw [Bool.cond_eq_ite] at ha
              split at ha
              · rename_i hb
                simp only [Bool.and_eq_true, nat_beq, decide_eq_true_eq, Nat.ble_eq] at hb
                obtain ⟨⟨rfl, hb1⟩, hb2⟩ := hb
                have vs0 := vs
                cases vs with | sl hσ he hlk hkc hnN hN hcap hxN =>
                rename_i c n0 N cap'
                rw [Bool.cond_eq_ite] at ha
                split at ha
                · rename_i h0
                  simp only [nat_beq, decide_eq_true_eq] at h0
                  cases ha
                  exact ⟨σ, _, w, nothing h0 _ len cap' rfl (by omega), hs, Fr.refl _ _ _, vs0⟩
                · rename_i h0
                  simp only [nat_beq, decide_eq_true_eq] at h0
                  rw [Bool.cond_eq_ite] at ha
                  split at ha
                  · rename_i hroom
                    rw [Nat.ble_eq] at hroom
                    split at ha
                    · rename_i ver cs bl gen wgen pl hb
                      rw [Bool.cond_eq_ite] at ha
                      split at ha
                      · rename_i hcnd
                        simp only [Bool.and_eq_true, nat_beq, decide_eq_true_eq, Nat.ble_eq] at hcnd
                        obtain ⟨rfl, hfit⟩ := hcnd
                        cases ha
                        exact place h0 b off len c n0 N k cap' ex ver bl g wgen pl cs rfl hb hσ he hkc hnN hN hcap hxN hroom hfit
                      · cases ha
                    · cases ha
                  · rename_i hroom
                    rw [Nat.ble_eq] at hroom
                    cases hex : ex
                    · rw [hex, cond_false] at ha
                      have hxN := hxN hex
                      split at ha
                      · rename_i ver cs bl gen wgen pl hb
                        rw [Bool.cond_eq_ite] at ha
                        split at ha
                        · rename_i hcnd
                          simp only [Bool.and_eq_true, nat_beq, decide_eq_true_eq] at hcnd
                          obtain ⟨⟨rfl, rfl⟩, rfl⟩ := hcnd
                          cases ha
                          exact grow_run (P := P) hs h1 hd h2 hx h3 hz0 hzl hpos hb hσ (by omega) (by omega) hl hf hn hn1 hnl h0 hb1 hb2 ty' (ver + 1)
                        · cases ha
                      · cases ha
                    · rw [hex, cond_true] at ha
                      have hck := hcap hex
                      rw [hex] at vs0
                      split at ha
                      · cases ha
                      · rename_i m old hsrc2
                        cases ha
                        obtain ⟨old', ol, of, ov, o1, onl⟩ := src_run (P := P) hs hsrc2 vs0
                        have hm : m = len := by simpa [Builtin.lenOf] using ol.symm
                        subst hm
                        exact fresh h0 _ m cap' old old' rfl of ov o1 onl (by omega) hb1 hb2
              · cases ha
            · cases ha
          · cases ha
        · cases ha
    · cases ha
  · cases ha
end Go.Proofs.YtoiojhmfndmflaaGreatDoor.Rex

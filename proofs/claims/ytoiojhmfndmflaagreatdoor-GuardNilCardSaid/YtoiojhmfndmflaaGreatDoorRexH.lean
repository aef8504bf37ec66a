/-
  Rex, part H: operations that read a block, make one, or store.
-/
import Derived.Test.YtoiojhmfndmflaaGreatDoorRexG
namespace Go.Proofs.YtoiojhmfndmflaaGreatDoor.Rex
open Go

/-! ## Loads -/

def loadA (P : Program) (t : TypeId) (v : AV) (h : Hp) : Option AV :=
  match ty P t, v with
  | some i, .ptr b g off ext => match h.at b with
    | some ⟨_, .cells cs _ _ wgen _⟩ =>
      bif Nat.ble wgen g && Nat.ble i.size ext then
        bif i.agg then some (.agg ((cs.drop off).take i.size)) else bif Nat.beq i.size 1 then nth cs off else none
      else none
    | _ => none
  | _, _ => none

theorem take_drop_take {α : Type} (l : List α) {n off s : Nat} (h : off + s ≤ n) : ((l.take n).drop off).take s = (l.drop off).take s := by
  rw [List.drop_take, List.take_take]
  congr 1
  omega

/-- What a row's known cells say of a part of it. -/
theorem row_part {σ : Sg} {cs : List AV} {w : World} {c n N off s : Nat} (h : RowR σ cs w c n N) (hs : off + s ≤ n) :
    ∃ cells e fr, w.heap[c]? = some (.cells cells e fr) ∧ cells.size = N ∧ n ≤ N ∧ VRs σ ((cs.drop off).take s) ((cells.toList.drop off).take s) := by
  obtain ⟨cells, e, lo, hi, h1, h2, h3, h4, _⟩ := h
  refine ⟨cells, e, _, h1, h2, h3, ?_⟩
  have := (h4.drop off).take s
  rwa [take_drop_take _ hs, take_drop_take _ hs] at this

theorem ObR.row {σ : Sg} {b g c n N : Nat} {cs : List AV} {len gen wgen pl : Nat} {w : World} (h : ObR σ b (.cells cs len gen wgen pl) w) (hg : wgen ≤ g) (e : σ b g = some (c, n, N)) :
    n ≤ len ∧ RowR σ cs w c n N := by
  obtain ⟨_, _, _, _, _, h6, _, h8⟩ := h
  have : g ≤ gen := by
    rcases Nat.lt_or_ge gen g with hlt | hge
    · rw [h8 g hlt] at e; cases e
    · exact hge
  exact h6 g c n N this hg e

theorem load_run {P : Program} {σ : Sg} {h : Hp} {nx : Nat} {w : World} (hs : SR σ h nx w) {t : TypeId} {p v : AV} (hl : loadA P t p h = some v) {p' : Value} (hp : VR σ p p') :
    ∃ v', (Instr.loadAt t p').run P w = .ok v' w ∧ VR σ v v' := by
  unfold loadA at hl
  split at hl
  · rename_i i b g off ext hi
    cases hp with | ptr e he hnN =>
    rename_i c n N
    split at hl
    · rename_i ver cs len gen wgen pl hb
      have ho := hs.blk b _ hb
      rw [Bool.cond_eq_ite] at hl
      split at hl
      · rename_i hc
        simp only [Bool.and_eq_true, Nat.ble_eq] at hc
        obtain ⟨hn, hrow⟩ := ho.row hc.1 e
        obtain ⟨cells, et, fr, h1, h2, h3, h4⟩ := row_part hrow (off := off) (s := i.size) (by omega)
        have hcell : ∀ j u, ((cells.toList.drop off).take i.size)[j]? = some u → w.cell? ((⟨c, off, none⟩ : Addr).add j) = some u := by
          intro j u hj
          rw [addr_add, cell_of h1]
          rw [List.getElem?_take] at hj
          split at hj
          · rw [List.getElem?_drop] at hj
            simpa using hj
          · cases hj
        cases hag : i.agg
        · rw [hag, cond_false, Bool.cond_eq_ite] at hl
          split at hl
          · rename_i h1s
            rw [nat_beq] at h1s
            have h1s : i.size = 1 := by simpa using h1s
            rw [h1s] at h4 hcell
            rw [nth_eq] at hl
            have hv : ((cs.drop off).take 1)[0]? = some v := by
              rw [List.getElem?_take, if_pos (by omega), List.getElem?_drop]; simpa using hl
            obtain ⟨v', e', hvr⟩ := h4.get hv
            refine ⟨v', ?_, hvr⟩
            have := hcell 0 v' e'
            rw [addr_add] at this
            simp only [Nat.add_zero] at this
            simp [Instr.loadAt, Instr.sureAddr, loadVar, ty_agg hi, hag, this]
          · cases hl
        · rw [hag] at hl
          simp only [cond_true, Option.some.injEq] at hl
          subst hl
          have hlen : ((cells.toList.drop off).take i.size).length = i.size := by simp; omega
          have hrun := run_loadCells_list (P := P) (w := w) ⟨c, off, none⟩ _ hcell
          rw [hlen] at hrun
          refine ⟨.agg ⟨(cells.toList.drop off).take i.size⟩, ?_, .agg h4 fun u hu => ho.2.2.2.1 u (List.mem_of_mem_drop (List.mem_of_mem_take hu))⟩
          simp [Instr.loadAt, Instr.sureAddr, loadVar, ty_agg hi, hag, ty_size hi, hrun]
      · cases hl
    · cases hl
  · cases hl

/-! ## Maps -/

/-- May a value be a map's key, with no question asked? -/
def chkFs (P : Program) (f : TypeId → AV → Bool) : List Field → List AV → Bool
  | [], _ => true
  | fd :: fs, l => (bif fd.name == "_" then true else match partA P fd.type l fd.offset with
      | none => false
      | some v => f fd.type v) && chkFs P f fs l
def chkA (P : Program) : Nat → TypeId → AV → Bool
  | 0, _, _ => false
  | d + 1, t, v => match ty P t with
    | none => false
    | some i => match i.d, v with
      | .interface _, _ => false
      | .array _ _, _ => false
      | .struct fs, .agg l => chkFs P (chkA P d) fs.toList l
      | .struct _, _ => false
      | _, _ => true

theorem chkFs_run {P : Program} {σ : Sg} {emp : Bool} {w : World} (f : TypeId → AV → Bool) (D : Nat)
    (hf : ∀ t v, f t v = true → ∀ v', VR σ v v' → (Instr.checkKey emp D t v').run P w = .ok () w) :
    ∀ (fs : List Field) (l : List AV) (l' : List Value), chkFs P f fs l = true → VRs σ l l' → (∀ v ∈ l, v.one = true) →
      (forIn fs PUnit.unit (fun fd _ => if fd.name ≠ "_" then (do
          let x ← part fd.type ⟨l'⟩ fd.offset
          Instr.checkKey emp D fd.type x
          pure (ForInStep.yield PUnit.unit)) else pure (ForInStep.yield PUnit.unit) : Field → PUnit → Sem (ForInStep PUnit))).run P w = .ok PUnit.unit w
  | [], l, l', _, _, _ => by simp
  | fd :: fs, l, l', h, hl, h1 => by
    simp only [chkFs, Bool.and_eq_true] at h
    obtain ⟨ha, hb⟩ := h
    have ih := chkFs_run f D hf fs l l' hb hl h1
    simp only [List.forIn_cons, Sem.run_bind]
    by_cases hn : fd.name = "_"
    · simp only [hn, ne_eq, not_true, if_false, Sem.run_pure, Result.andThen_ok]
      exact ih
    · have hn' : (fd.name == "_") = false := by simpa using hn
      rw [hn'] at ha
      simp only [cond_false] at ha
      split at ha
      · cases ha
      · rename_i v hv
        obtain ⟨v', hr, hvr⟩ := part_run hv hl h1 w
        have := hf _ _ ha v' hvr
        simp only [ne_eq, hn, not_false_eq_true, if_true, Sem.run_bind, hr, this, Result.andThen_ok, Sem.run_pure]
        exact ih

theorem chk_run {P : Program} {σ : Sg} {emp : Bool} {w : World} : ∀ (d : Nat) (t : TypeId) (v : AV), chkA P d t v = true → ∀ D, d ≤ D → ∀ v', VR σ v v' →
    (Instr.checkKey emp D t v').run P w = .ok () w
  | 0, t, v, h => by cases h
  | d + 1, t, v, h => by
    intro D hD v' hv
    obtain ⟨D, rfl⟩ : ∃ n, D = n + 1 := ⟨D - 1, by omega⟩
    unfold chkA at h
    split at h
    · cases h
    · rename_i i hi
      have hu := ty_run hi w
      split at h
      · cases h
      · cases h
      · rename_i fs l hd
        rw [hd] at hu
        cases hv with | agg hl h1 =>
        have := chkFs_run (P := P) (emp := emp) (w := w) (chkA P d) D (fun t v hc v' hv' => chk_run d t v hc D (by omega) v' hv') fs.toList l _ h hl h1
        rw [Instr.checkKey, Sem.run_bind, hu, Result.andThen_ok]
        simp only
        rw [← Array.forIn_toList]
        rw [Sem.run_bind]
        refine Eq.trans (congrArg (fun r => Result.andThen r _) this) ?_
        rfl
      · cases h
      · rename_i hn1 hn2 hn3 hn4
        rw [Instr.checkKey, Sem.run_bind, hu, Result.andThen_ok]
        generalize hd : i.d = d' at *
        cases d' <;> first
          | exact (hn1 _ rfl).elim
          | exact (hn2 _ _ rfl).elim
          | exact (hn3 _ rfl).elim
          | (cases hv <;> rfl)

def findA (P : Program) (kt : TypeId) (k : AV) : List (AV × AV × Nat) → Nat → Option (Option (Nat × AV))
  | [], _ => some none
  | (k', v, _) :: es, i => match eqIn P 5 kt k k' with
    | none => none
    | some true => some (some (i, v))
    | some false => findA P kt k es (i + 1)

inductive FndR (σ : Sg) : Option (Nat × AV) → Option (Nat × Value) → Prop where
  | none : FndR σ none none
  | some (i : Nat) {v : AV} {v' : Value} (h : VR σ v v') : FndR σ (some (i, v)) (some (i, v'))

def isBasic : TypeDesc → Bool
  | .int _ | .string | .bool => true
  | _ => false

theorem sameNow_eq {P : Program} {σ : Sg} {kt : TypeId} {i : TI} (hi : ty P kt = some i) (hd : isBasic i.d = true) {a b : AV} {r : Bool} (h : eqIn P 5 kt a b = some r) {a' b' : Value}
    (ha : VR σ a a') (hb : VR σ b b') : Instr.sameNow i.d a' b' = some r := by
  unfold eqIn at h
  rw [hi] at h
  simp only at h
  split at h <;> (rename_i hdd; try (rw [hdd] at hd ⊢)) <;> first
    | (exfalso; simp [isBasic] at hd; done)
    | (cases h; cases ha; cases hb; rfl)
    | (rw [Bool.cond_eq_ite] at h
       split at h
       · rename_i hk
         have hk := keq_eq hk
         subst hk
         cases h; cases ha; cases hb
         simp only [Instr.sameNow, if_true, ieq_eq]
         first | done | congr 1
       · cases h)
    | (cases h; cases ha; cases hb
       simp only [Instr.sameNow, leq_bys, ← beq_toListBytes])
    | cases h

theorem findNow_run {P : Program} {σ : Sg} {kt : TypeId} {ti : TI} (hi : ty P kt = some ti) (hd : isBasic ti.d = true) {k : AV} {k' : Value} (hk : VR σ k k') :
    ∀ (es : List (AV × AV × Nat)) (es' : List MapEntry) (i : Nat) (r : Option (Nat × AV)), findA P kt k es i = some r → ERs σ es es' → ∃ r', Instr.findNow ti.d k' es' i = some r' ∧ FndR σ r r'
  | [], es', i, r, h, he => by cases he; cases h; exact ⟨none, rfl, .none⟩
  | (a, v, n) :: es, es', i, r, h, he => by
    cases he with | cons ha hv t =>
    simp only [findA] at h
    split at h
    · cases h
    · rename_i hq
      have := sameNow_eq hi hd hq hk ha
      cases h
      exact ⟨_, by simp only [Instr.findNow, this], .some i hv⟩
    · rename_i hq
      have := sameNow_eq hi hd hq hk ha
      obtain ⟨r', h1, h2⟩ := findNow_run hi hd hk es _ (i + 1) r h t
      exact ⟨r', by simp only [Instr.findNow, this]; exact h1, h2⟩

theorem findAsking_run {P : Program} {σ : Sg} {kt : TypeId} {k : AV} {k' : Value} (hk : VR σ k k') (w : World) :
    ∀ (es : List (AV × AV × Nat)) (es' : List MapEntry) (i : Nat) (r : Option (Nat × AV)), findA P kt k es i = some r → ERs σ es es' → ∃ r', (Instr.findAsking kt k' es' i).run P w = .ok r' w ∧ FndR σ r r'
  | [], es', i, r, h, he => by cases he; cases h; exact ⟨none, rfl, .none⟩
  | (a, v, n) :: es, es', i, r, h, he => by
    cases he with | cons ha hv t =>
    simp only [findA] at h
    split at h
    · cases h
    · rename_i hq
      have : (Op.equal kt k' _).run P w = .ok true w := eqIn_run 5 kt k a true hq 10000 (by omega) _ _ hk ha w
      cases h
      exact ⟨_, by simp only [Instr.findAsking, Sem.run_bind, this, Result.andThen_ok, if_true]; rfl, .some i hv⟩
    · rename_i hq
      have : (Op.equal kt k' _).run P w = .ok false w := eqIn_run 5 kt k a false hq 10000 (by omega) _ _ hk ha w
      obtain ⟨r', h1, h2⟩ := findAsking_run hk w es _ (i + 1) r h t
      exact ⟨r', by simp only [Instr.findAsking, Sem.run_bind, this, Result.andThen_ok, Bool.false_eq_true, if_false]; exact h1, h2⟩

theorem findKey_run {P : Program} {σ : Sg} {kt : TypeId} {ti : TI} (hi : ty P kt = some ti) {k : AV} {k' : Value} (hk : VR σ k k') {es : List (AV × AV × Nat)} {es' : List MapEntry}
    {r : Option (Nat × AV)} (h : findA P kt k es 0 = some r) (he : ERs σ es es') (w : World) : ∃ r', (Instr.findKey kt k' es').run P w = .ok r' w ∧ FndR σ r r' := by
  cases hd : isBasic ti.d
  · cases he with
    | nil => cases h; exact ⟨none, by simp [Instr.findKey, ty_run hi, Instr.findNow], .none⟩
    | cons ha hv t =>
      obtain ⟨r', h1, h2⟩ := findAsking_run hk w _ _ 0 r h (.cons ha hv t)
      refine ⟨r', ?_, h2⟩
      have hn : ∀ a b, Instr.sameNow ti.d a b = none := by
        intro a b
        cases hdd : ti.d <;> first
          | (rw [hdd] at hd; simp [isBasic] at hd; done)
          | rfl
      simp only [Instr.findKey, Sem.run_bind, ty_run hi, Result.andThen_ok, Instr.findNow, hn]
      exact h1
  · obtain ⟨r', h1, h2⟩ := findNow_run hi hd hk es es' 0 r h he
    exact ⟨r', by simp [Instr.findKey, ty_run hi, h1], h2⟩

def resA (ok : Bool) (v : AV) (b : Bool) : AV := bif ok then .tup [v, .bool b] else v

def lookupA (P : Program) (t : TypeId) (m k : AV) (ok : Bool) (h : Hp) : Option AV :=
  match ty P t with
  | none => none
  | some i => match i.d with
    | .map kt et =>
      match ty P kt, ty P et with
      | some _, some ei =>
        bif chkA P 3 kt k then
          match m with
          | .nmap => match ei.zero with
            | none => none
            | some z => some (resA ok z false)
          | .map b => match h.at b with
            | some ⟨_, .map es _⟩ => match findA P kt k es 0 with
              | none => none
              | some (some (_, v)) => some (resA ok v true)
              | some none => match ei.zero with
                | none => none
                | some z => some (resA ok z false)
            | _ => none
          | _ => none
        else none
      | _, _ => none
    | _ => none

theorem res_vr {σ : Sg} {v : AV} {v' : Value} (h : VR σ v v') (ok b : Bool) : VR σ (resA ok v b) (if ok then .tuple #[v', .bool b] else v') := by
  cases ok
  · exact h
  · exact .tup (.cons h (.cons (.bool b) .nil))

theorem lookup_run {P : Program} {σ : Sg} {h : Hp} {nx : Nat} {w : World} (hs : SR σ h nx w) {t : TypeId} {m k v : AV} {ok : Bool} (hl : lookupA P t m k ok h = some v) {m' k' : Value}
    (hm : VR σ m m') (hk : VR σ k k') : ∃ v', (Instr.lookup t m' k' ok).run P w = .ok v' w ∧ VR σ v v' := by
  unfold lookupA at hl
  split at hl
  · cases hl
  · rename_i i hi
    have hu := ty_run hi w
    split at hl
    · rename_i kt et hd
      rw [hd] at hu
      split at hl
      · rename_i ki ei hki hei
        rw [Bool.cond_eq_ite] at hl
        split at hl
        · rename_i hc
          split at hl
          · cases hm
            split at hl
            · cases hl
            · rename_i z hz
              obtain ⟨z', rz, oz⟩ := ty_zero hei hz
              cases hl
              have hck := chk_run (P := P) (emp := true) (w := w) 3 kt k hc 10000 (by omega) k' hk
              refine ⟨_, ?_, res_vr (ofV_vr oz) ok false⟩
              simp [Instr.lookup, hu, hck, Instr.findKey, ty_run hki, Instr.findNow, rz]
          · rename_i b
            cases hm with | map hσ =>
            rename_i c
            split at hl
            · rename_i ver es clock hb
              obtain ⟨_, c', es', h1, h2, h3⟩ := hs.blk b _ hb
              rw [hσ] at h1
              cases h1
              have hck := chk_run (P := P) (emp := es'.isEmpty) (w := w) 3 kt k hc 10000 (by omega) k' hk
              have hget : (getObj c).run P w = .ok (.map ⟨es'⟩ clock) w := by simp [getObj, Sem.run, h2]
              split at hl
              · cases hl
              · rename_i ix u hf
                cases hl
                obtain ⟨r', hr, hfr⟩ := findKey_run hki hk hf h3 w
                cases hfr with | some _ hv =>
                refine ⟨_, ?_, res_vr hv ok true⟩
                simp [Instr.lookup, hu, hget, hck, hr]
              · rename_i hf
                split at hl
                · cases hl
                · rename_i z hz
                  obtain ⟨z', rz, oz⟩ := ty_zero hei hz
                  cases hl
                  obtain ⟨r', hr, hfr⟩ := findKey_run hki hk hf h3 w
                  cases hfr
                  refine ⟨_, ?_, res_vr (ofV_vr oz) ok false⟩
                  simp [Instr.lookup, hu, hget, hck, hr, rz]
            · cases hl
          · cases hl
        · cases hl
      · cases hl
    · cases hl

def lenMapA (P : Program) (t : TypeId) (m : AV) (h : Hp) : Option AV :=
  match ty P t, m with
  | some i, .map b => match i.d, h.at b with
    | .map _ _, some ⟨_, .map es _⟩ => some (.int .i64 (.ofNat es.length))
    | _, _ => none
  | _, _ => none

theorem ERs.length {σ : Sg} {es : List (AV × AV × Nat)} {es' : List MapEntry} (h : ERs σ es es') : es.length = es'.length := by
  induction h with
  | nil => rfl
  | cons _ _ _ ih => simp [ih]

theorem lenMap_run {P : Program} {σ : Sg} {h : Hp} {nx : Nat} {w : World} (hs : SR σ h nx w) {t : TypeId} {m v : AV} (hl : lenMapA P t m h = some v) {m' : Value} (hm : VR σ m m')
    (ty' : TypeId) : ∃ v', (Builtin.len_ #[t] ty' #[m']).run P w = .ok v' w ∧ VR σ v v' := by
  unfold lenMapA at hl
  split at hl
  · rename_i i b hi
    have hu := ty_run hi w
    cases hm with | map hσ =>
    rename_i c
    split at hl
    · rename_i kt et ver es clock hd hb
      rw [hd] at hu
      obtain ⟨_, c', es', h1, h2, h3⟩ := hs.blk b _ hb
      rw [hσ] at h1
      cases h1
      cases hl
      have hget : (getObj c).run P w = .ok (.map ⟨es'⟩ clock) w := by simp [getObj, Sem.run, h2]
      refine ⟨.int .i64 es'.length, ?_, by rw [h3.length]; exact .int _ _⟩
      simp [Builtin.len_, hu, hget, goInt]
    · cases hl
  · cases hl

/-- What an operation tells that reads one block. -/
def readOp (P : Program) (ev : Ev) (op : Op) (h : Hp) : Option AV :=
  match op with
  | .load t a => ap1 (ev a) fun v => loadA P t v h
  | .lookup t m k ok => ap1 (ev m) fun m => ap1 (ev k) fun k => lookupA P t m k ok h
  | .call c => match c.callee with
    | .builtin .len => match c.argTypes.toList, c.args.toList with
      | [t], [x] => ap1 (ev x) fun m => lenMapA P t m h
      | _, _ => none
    | _ => none
  | _ => none

theorem read_run {P : Program} {σ : Sg} {h : Hp} {nx : Nat} {w : World} (hs : SR σ h nx w) {ev : Ev} {ρ : Operand → Value} (hr : ER σ ev ρ) {o : Oper} {v : AV} (hl : readOp P ev o.op h = some v) :
    ∃ v', (execOp ρ o).run P w = .ok (.value v') w ∧ VR σ v v' := by
  obtain ⟨dst, op, typ, pos, after, guard⟩ := o
  have lift : ∀ {s : Sem Value}, (∃ v', s.run P w = .ok v' w ∧ VR σ v v') → ∃ v', (do pure (Next.value (← s)) : Sem Next).run P w = .ok (.value v') w ∧ VR σ v v' := by
    rintro s ⟨v', e, hv⟩
    exact ⟨v', by simp [e], hv⟩
  dsimp only at hl
  unfold readOp at hl
  split at hl
  · obtain ⟨a, ea, hl⟩ := ap1_some hl
    exact lift (load_run hs hl (hr _ _ ea))
  · obtain ⟨a, ea, hl⟩ := ap1_some hl
    obtain ⟨b, eb, hl⟩ := ap1_some hl
    exact lift (lookup_run hs hl (hr _ _ ea) (hr _ _ eb))
  · rename_i c
    obtain ⟨callee, args, argTypes⟩ := c
    dsimp only at hl
    split at hl
    · split at hl
      · rename_i t x hat har
        obtain ⟨a, ea, hl⟩ := ap1_some hl
        have e1 : argTypes = #[t] := by apply Array.ext'; simp [hat]
        have e2 : args = #[x] := by apply Array.ext'; simp [har]
        subst e1 e2
        obtain ⟨v', e, hv⟩ := lenMap_run hs hl (hr _ _ ea) typ
        exact ⟨v', by simp [execOp, resolve, invoke, builtin, e], hv⟩
      · cases hl
    · cases hl
  · cases hl
end Go.Proofs.YtoiojhmfndmflaaGreatDoor.Rex

/-
  Rex, part K: operations that change memory and call nothing.
-/
import Derived.Lib.Bytealg
import Derived.Laws.Externs
import Derived.Test.YtoiojhmfndmflaaGreatDoorRexJ
namespace Go.Proofs.YtoiojhmfndmflaaGreatDoor.Rex
open Go

/-! ## Maps -/

def sb0 : AV → AV → Bool
  | .int k a, .int k' b => keq k k' && ieq a b
  | .str a, .str b => leq a b
  | .bool a, .bool b => a == b
  | _, _ => false
def sbs : List AV → List AV → Bool
  | [], [] => true
  | a :: l, b :: m => sb0 a b && sbs l m
  | _, _ => false
/-- Keys of one spelling. -/
def sbA : AV → AV → Bool
  | .agg l, .agg m => sbs l m
  | a, b => sb0 a b

theorem sb0_run {σ : Sg} {a b : AV} (h : sb0 a b = true) {a' b' : Value} (ha : VR σ a a') (hb : VR σ b b') (n : Nat) : Instr.sameBits n a' b' = true := by
  unfold sb0 at h
  split at h
  · cases ha; cases hb
    simp only [Bool.and_eq_true, ieq_eq, decide_eq_true_eq] at h
    have := keq_eq h.1
    subst this
    rw [h.2]; simp [Instr.sameBits]
  · cases ha; cases hb
    rw [leq_bys, ← beq_toListBytes] at h
    simpa [Instr.sameBits] using h
  · cases ha; cases hb
    simpa [Instr.sameBits] using h
  · cases h

theorem sbs_run {σ : Sg} : ∀ {l m : List AV}, sbs l m = true → ∀ {l' m' : List Value}, VRs σ l l' → VRs σ m m' → ∀ n, l'.length = m'.length ∧ (l'.zip m').all (fun (x, y) => Instr.sameBits n x y) = true
  | [], [], _, l', m', hl, hm, n => by cases hl; cases hm; simp
  | a :: l, b :: m, h, l', m', hl, hm, n => by
    cases hl with | cons ha hl => cases hm with | cons hb hm =>
    simp only [sbs, Bool.and_eq_true] at h
    obtain ⟨h1, h2⟩ := sbs_run h.2 hl hm n
    exact ⟨by simp [h1], by simp [sb0_run h.1 ha hb n, h2]⟩

theorem sbA_run {σ : Sg} {a b : AV} (h : sbA a b = true) {a' b' : Value} (ha : VR σ a a') (hb : VR σ b b') : Instr.sameBits 10000 a' b' = true := by
  unfold sbA at h
  split at h
  · cases ha with | agg hl _ => cases hb with | agg hm _ =>
    obtain ⟨h1, h2⟩ := sbs_run h hl hm 9999
    show (_ == _ && _) = true
    simp only [Bool.and_eq_true, beq_iff_eq]
    exact ⟨h1, h2⟩
  · exact sb0_run h ha hb _

def updA (P : Program) (t : TypeId) (m k v : AV) (h : Hp) : Option ApR :=
  match ty P t, m with
  | some i, .map b => match i.d, h.at b with
    | .map kt _, some ⟨ver, .map es clock⟩ => match ty P kt with
      | none => none
      | some _ =>
        bif chkA P 3 kt k then
          match findA P kt k es 0 with
          | none => none
          | some none => some (.wr (.tup []) b ⟨ver + 1, .map (es ++ [(k, v, clock)]) (clock + 1)⟩)
          | some (some (ix, _)) => match nth es ix with
            | none => none
            | some (k0, _, n) => bif sbA k0 k then some (.wr (.tup []) b ⟨ver + 1, .map (es.set ix (k, v, n)) clock⟩) else none
        else none
    | _, _ => none
  | _, _ => none

theorem ERs.append {σ : Sg} {es fs : List (AV × AV × Nat)} {es' fs' : List MapEntry} (h : ERs σ es es') (h' : ERs σ fs fs') : ERs σ (es ++ fs) (es' ++ fs') := by
  induction h with
  | nil => exact h'
  | cons hk hv _ ih => exact .cons hk hv ih
theorem ERs.get {σ : Sg} {es : List (AV × AV × Nat)} {es' : List MapEntry} (h : ERs σ es es') : ∀ {i : Nat} {k v : AV} {n : Nat}, es[i]? = some (k, v, n) →
    ∃ k' v', es'[i]? = some ⟨k', v', n⟩ ∧ VR σ k k' ∧ VR σ v v' := by
  induction h with
  | nil => intro i k v n e; simp at e
  | cons hk hv _ ih =>
    intro i k v n e
    cases i with
    | zero => simp at e; obtain ⟨rfl, rfl, rfl⟩ := e; exact ⟨_, _, rfl, hk, hv⟩
    | succ i => simp at e; obtain ⟨k', v', e', r⟩ := ih e; exact ⟨k', v', by simpa using e', r⟩
theorem ERs.set {σ : Sg} {es : List (AV × AV × Nat)} {es' : List MapEntry} (h : ERs σ es es') {k v : AV} {n : Nat} {k' v' : Value} (hk : VR σ k k') (hv : VR σ v v') : ∀ (i : Nat),
    ERs σ (es.set i (k, v, n)) (es'.set i ⟨k', v', n⟩) := by
  induction h with
  | nil => intro i; exact .nil
  | cons hk0 hv0 t ih =>
    intro i
    cases i with
    | zero => exact .cons hk hv t
    | succ i => exact .cons hk0 hv0 (ih i)

theorem modify_set (es' : List MapEntry) (ix : Nat) (e : MapEntry) (f : MapEntry → MapEntry) (h : es'[ix]? = some e) : (⟨es'⟩ : Array MapEntry).modify ix f = ⟨es'.set ix (f e)⟩ := by
  apply Array.ext'
  rw [Array.toList_modify]
  show es'.modify ix f = es'.set ix (f e)
  apply List.ext_getElem?
  intro j
  have hlt : ix < es'.length := (List.getElem?_eq_some_iff.1 h).1
  rw [List.getElem?_modify, List.getElem?_set]
  by_cases hj : ix = j
  · subst hj; have he := (List.getElem?_eq_some_iff.1 h).2; simp [hlt, he]
  · simp [hj]

theorem getMap_run {P : Program} {w : World} {c : Nat} {o : Obj} (h : w.heap[c]? = some o) (ho : ∀ a b d, o ≠ .cells a b d) : (getObj c).run P w = .ok o w := by
  cases o <;> first
    | exact (ho _ _ _ rfl).elim
    | simp [getObj, Sem.run, h]
theorem setObj_run {P : Program} {w : World} {c : Nat} {o o' : Obj} (h : w.heap[c]? = some o) (ho : ∀ a b d, o ≠ .cells a b d) : (setObj c o').run P w = .ok () (setW w c o') := by
  cases o <;> first
    | exact (ho _ _ _ rfl).elim
    | simp [setObj, Sem.run, h, setW]

theorem lt_of_heap {w : World} {c : Nat} {o : Obj} (h : w.heap[c]? = some o) : c < w.heap.size := (Array.getElem?_eq_some_iff.1 h).1

/-- A block that is no row of cells turns. -/
theorem obj_upd {σ : Sg} {h : Hp} {nx : Nat} {w : World} (hs : SR σ h nx w) {b c : Nat} (hσ : σ b 0 = some (c, 0, 0)) (o' : Obj) (x : Bk) (ho : ObR σ b x.o (setW w c o')) :
    SR σ (h.set b x) nx (setW w c o') ∧ Fr nx σ w σ (setW w c o') :=
  ⟨hs.upd hσ x (setW_size _ _ _) (fun _ hc => setW_other _ _ hc) ho, Fr.upd hσ (setW_size _ _ _) (fun _ hc => setW_other _ _ hc) rfl rfl rfl⟩

theorem upd_run {P : Program} {σ : Sg} {h : Hp} {nx : Nat} {w : World} (hs : SR σ h nx w) {t : TypeId} {m k v : AV} {r : ApR} (hu : updA P t m k v h = some r) {m' k' v' : Value}
    (hm : VR σ m m') (hk : VR σ k k') (hv : VR σ v v') :
    ∃ w', (Instr.mapUpdate t m' k' v').run P w = .ok () w' ∧ SR σ (r.hp h nx) (r.nx nx) w' ∧ Fr nx σ w σ w' ∧ r.val nx = .tup [] := by
  unfold updA at hu
  split at hu
  · rename_i i b hi
    have hun := ty_run hi w
    cases hm with | map hσ =>
    rename_i c
    split at hu
    · rename_i kt et ver es clock hd hb
      rw [hd] at hun
      obtain ⟨h0, c', es', h1, h2, h3⟩ := hs.blk b _ hb
      rw [hσ] at h1
      cases h1
      have hget := getMap_run (P := P) h2 (by simp)
      split at hu
      · cases hu
      · rename_i ki hki
        rw [Bool.cond_eq_ite] at hu
        split at hu
        · rename_i hc
          have hck := chk_run (P := P) (emp := false) (w := w) 3 kt k hc 10000 (by omega) k' hk
          split at hu
          · cases hu
          · rename_i hf
            cases hu
            obtain ⟨r', hr, hfr⟩ := findKey_run hki hk hf h3 w
            cases hfr
            have hset := setObj_run (P := P) (o' := .map ⟨es' ++ [⟨k', v', clock⟩]⟩ (clock + 1)) h2 (by simp)
            have hpush : (⟨es'⟩ : Array MapEntry).push ⟨k', v', clock⟩ = ⟨es' ++ [⟨k', v', clock⟩]⟩ := by apply Array.ext'; simp
            obtain ⟨s1, s2⟩ := obj_upd hs hσ (.map ⟨es' ++ [⟨k', v', clock⟩]⟩ (clock + 1)) ⟨ver + 1, .map (es ++ [(k, v, clock)]) (clock + 1)⟩
              ⟨h0, c, _, hσ, setW_same _ (lt_of_heap h2), h3.append (.cons hk hv .nil)⟩
            refine ⟨_, ?_, s1, s2, rfl⟩
            simp only [Instr.mapUpdate, Sem.run_bind, hun, hget, hck, hr, Result.andThen_ok, hpush, hset]
          · rename_i ix u hf
            obtain ⟨r', hr, hfr⟩ := findKey_run hki hk hf h3 w
            cases hfr
            split at hu
            · cases hu
            · rename_i k0 v0 n hn
              rw [nth_eq] at hn
              obtain ⟨k0', v0', e', vk0, _⟩ := h3.get hn
              rw [Bool.cond_eq_ite] at hu
              split at hu
              · rename_i hsb
                cases hu
                have hkeep : (Instr.keyThatStays k0' k').run P w = .ok k' w := by simp [Instr.keyThatStays, sbA_run hsb vk0 hk]
                have hset := setObj_run (P := P) (o' := .map ⟨es'.set ix ⟨k', v', n⟩⟩ clock) h2 (by simp)
                obtain ⟨s1, s2⟩ := obj_upd hs hσ (.map ⟨es'.set ix ⟨k', v', n⟩⟩ clock) ⟨ver + 1, .map (es.set ix (k, v, n)) clock⟩
                  ⟨h0, c, _, hσ, setW_same _ (lt_of_heap h2), h3.set hk hv ix⟩
                refine ⟨_, ?_, s1, s2, rfl⟩
                have hm := modify_set es' ix _ (fun e => { e with key := k', val := v' }) e'
                have hgi : ((⟨es'⟩ : Array MapEntry)[ix]?) = some ⟨k0', v0', n⟩ := by
                  show es'.toArray[ix]? = _
                  simp [e']
                simp only [Instr.mapUpdate, Sem.run_bind, hun, hget, hck, hr, Result.andThen_ok, hgi, Option.map_some, Option.getD_some, hkeep, hm, hset]
              · cases hu
        · cases hu
    · cases hu
  · cases hu

/-- 'm[k] += ..': the entry is there behind it; its value, and its stamp. -/
def entryA (P : Program) (t : TypeId) (m k : AV) (h : Hp) : Option ApR :=
  match ty P t, m with
  | some i, .map b => match i.d, h.at b with
    | .map kt et, some ⟨ver, .map es clock⟩ => match ty P kt, ty P et with
      | some _, some ei =>
        bif chkA P 3 kt k then
          match findA P kt k es 0 with
          | none => none
          | some none => match ei.zero with
            | none => none
            | some z => some (.wr (.tup [z, .int .i64 (.ofNat clock)]) b ⟨ver + 1, .map (es ++ [(k, z, clock)]) (clock + 1)⟩)
          | some (some (ix, v)) => match nth es ix with
            | none => none
            | some (k0, v0, n) => bif sbA k0 k then some (.wr (.tup [v, .int .i64 (.ofNat n)]) b ⟨ver + 1, .map (es.set ix (k, v0, n)) clock⟩) else none
        else none
      | _, _ => none
    | _, _ => none
  | _, _ => none

theorem entry_run {P : Program} {σ : Sg} {h : Hp} {nx : Nat} {w : World} (hs : SR σ h nx w) {t : TypeId} {m k : AV} {r : ApR} (hu : entryA P t m k h = some r) {m' k' : Value}
    (hm : VR σ m m') (hk : VR σ k k') :
    ∃ v' w', (Instr.mapEntry t m' k').run P w = .ok v' w' ∧ SR σ (r.hp h nx) (r.nx nx) w' ∧ Fr nx σ w σ w' ∧ VR σ (r.val nx) v' := by
  unfold entryA at hu
  split at hu
  · rename_i i b hi
    have hun := ty_run hi w
    cases hm with | map hσ =>
    rename_i c
    split at hu
    · rename_i kt et ver es clock hd hb
      rw [hd] at hun
      obtain ⟨h0, c', es', h1, h2, h3⟩ := hs.blk b _ hb
      rw [hσ] at h1
      cases h1
      have hget := getMap_run (P := P) h2 (by simp)
      split at hu
      · rename_i ki ei hki hei
        rw [Bool.cond_eq_ite] at hu
        split at hu
        · rename_i hc
          have hck := chk_run (P := P) (emp := false) (w := w) 3 kt k hc 10000 (by omega) k' hk
          split at hu
          · cases hu
          · rename_i hf
            split at hu
            · cases hu
            · rename_i z hz
              obtain ⟨z', rz, oz⟩ := ty_zero hei hz
              cases hu
              obtain ⟨r', hr, hfr⟩ := findKey_run hki hk hf h3 w
              cases hfr
              have hset := setObj_run (P := P) (o' := .map ⟨es' ++ [⟨k', z', clock⟩]⟩ (clock + 1)) h2 (by simp)
              have hpush : (⟨es'⟩ : Array MapEntry).push ⟨k', z', clock⟩ = ⟨es' ++ [⟨k', z', clock⟩]⟩ := by apply Array.ext'; simp
              obtain ⟨s1, s2⟩ := obj_upd hs hσ (.map ⟨es' ++ [⟨k', z', clock⟩]⟩ (clock + 1)) ⟨ver + 1, .map (es ++ [(k, z, clock)]) (clock + 1)⟩
                ⟨h0, c, _, hσ, setW_same _ (lt_of_heap h2), h3.append (.cons hk (ofV_vr oz) .nil)⟩
              refine ⟨_, _, ?_, s1, s2, .tup (.cons (ofV_vr oz) (.cons (.int _ _) .nil))⟩
              simp only [Instr.mapEntry, Sem.run_bind, hun, hget, hck, hr, Result.andThen_ok, rz, hpush, hset, goInt, Sem.run_pure]
              rfl
          · rename_i ix u hf
            obtain ⟨r', hr, hfr⟩ := findKey_run hki hk hf h3 w
            cases hfr with | some _ hvu =>
            rename_i u'
            split at hu
            · cases hu
            · rename_i k0 v0 n hn
              rw [nth_eq] at hn
              obtain ⟨k0', v0', e', vk0, vv0⟩ := h3.get hn
              rw [Bool.cond_eq_ite] at hu
              split at hu
              · rename_i hsb
                cases hu
                have hkeep : (Instr.keyThatStays k0' k').run P w = .ok k' w := by simp [Instr.keyThatStays, sbA_run hsb vk0 hk]
                have hset := setObj_run (P := P) (o' := .map ⟨es'.set ix ⟨k', v0', n⟩⟩ clock) h2 (by simp)
                obtain ⟨s1, s2⟩ := obj_upd hs hσ (.map ⟨es'.set ix ⟨k', v0', n⟩⟩ clock) ⟨ver + 1, .map (es.set ix (k, v0, n)) clock⟩
                  ⟨h0, c, _, hσ, setW_same _ (lt_of_heap h2), h3.set hk vv0 ix⟩
                refine ⟨.tuple #[u', .int .i64 (n : Int)], _, ?_, s1, s2, .tup (.cons hvu (.cons (.int _ _) .nil))⟩
                have hm := modify_set es' ix _ (fun e => { e with key := k' }) e'
                have hgi : ((⟨es'⟩ : Array MapEntry)[ix]?) = some ⟨k0', v0', n⟩ := by
                  show es'.toArray[ix]? = _
                  simp [e']
                simp only [Instr.mapEntry, Sem.run_bind, hun, hget, hck, hr, Result.andThen_ok, hgi, Option.map_some, Option.getD_some, hkeep, hm, hset, goInt, Sem.run_pure]
              · cases hu
        · cases hu
      · cases hu
    · cases hu
  · cases hu

def bornAt (s : Nat) : List (AV × AV × Nat) → Nat → Option (Nat × AV × Nat)
  | [], _ => none
  | (k, _, n) :: es, i => bif Nat.beq n s then some (i, k, n) else bornAt s es (i + 1)

theorem bornAt_run {σ : Sg} {s : Nat} : ∀ {es : List (AV × AV × Nat)} {es' : List MapEntry} {i0 i : Nat} {k : AV} {n : Nat}, ERs σ es es' → bornAt s es i0 = some (i, k, n) →
    ∃ j k' v', i = i0 + j ∧ es'.findIdx? (fun e => (e.born : Int) == (s : Int)) = some j ∧ es'[j]? = some ⟨k', v', n⟩ ∧ VR σ k k'
  | [], es', i0, i, k, n, he, h => by cases h
  | (k1, v1, n1) :: es, es', i0, i, k, n, he, h => by
    cases he with | cons hk hv t =>
    simp only [bornAt, nat_beq, Bool.cond_eq_ite, decide_eq_true_eq] at h
    split at h
    · rename_i hn
      subst hn
      cases h
      exact ⟨0, _, _, rfl, by simp [List.findIdx?_cons], rfl, hk⟩
    · rename_i hn
      obtain ⟨j, k', v', rfl, h2, h3, h4⟩ := bornAt_run t h
      have hnn : ((n1 : Int) == (s : Int)) = false := by simp; omega
      exact ⟨j + 1, k', v', by omega, by simp [List.findIdx?_cons, hnn, h2], by simpa using h3, h4⟩

def entStA (m s v : AV) (h : Hp) : Option ApR :=
  match m, natOf s with
  | .map b, some n => match h.at b with
    | some ⟨ver, .map es clock⟩ => match bornAt n es 0 with
      | none => none
      | some (i, k, n) => some (.wr (.tup []) b ⟨ver + 1, .map (es.set i (k, v, n)) clock⟩)
    | _ => none
  | _, _ => none

theorem entSt_run {P : Program} {σ : Sg} {h : Hp} {nx : Nat} {w : World} (hs : SR σ h nx w) {t : TypeId} {m s v : AV} {r : ApR} (hu : entStA m s v h = some r) {m' s' v' : Value}
    (hm : VR σ m m') (hsv : VR σ s s') (hv : VR σ v v') :
    ∃ w', (Instr.entryStore t m' s' v').run P w = .ok () w' ∧ SR σ (r.hp h nx) (r.nx nx) w' ∧ Fr nx σ w σ w' ∧ r.val nx = .tup [] := by
  unfold entStA at hu
  split at hu
  · rename_i b n hn
    cases hm with | map hσ =>
    rename_i c
    obtain ⟨kk, rfl⟩ := natOf_vr hn hsv
    split at hu
    · rename_i ver es clock hb
      obtain ⟨h0, c', es', h1, h2, h3⟩ := hs.blk b _ hb
      rw [hσ] at h1
      cases h1
      have hget := getMap_run (P := P) h2 (by simp)
      split at hu
      · cases hu
      · rename_i i k n' hbn
        cases hu
        obtain ⟨j, k', v0', rfl, hfi, hj, hk⟩ := bornAt_run h3 hbn
        rw [Nat.zero_add] at *
        have hset := setObj_run (P := P) (o' := .map ⟨es'.set j ⟨k', v', n'⟩⟩ clock) h2 (by simp)
        obtain ⟨s1, s2⟩ := obj_upd hs hσ (.map ⟨es'.set j ⟨k', v', n'⟩⟩ clock) ⟨ver + 1, .map (es.set j (k, v, n')) clock⟩ ⟨h0, c, _, hσ, setW_same _ (lt_of_heap h2), h3.set hk hv j⟩
        refine ⟨_, ?_, s1, s2, rfl⟩
        have hm := modify_set es' j _ (fun e => { e with val := v' }) hj
        have hfi' : (⟨es'⟩ : Array MapEntry).findIdx? (fun e => (e.born : Int) == (n : Int)) = some j := by
          show es'.toArray.findIdx? _ = _
          simpa using hfi
        simp only [Instr.entryStore, Sem.run_bind, hget, asInt, asIntOf, Sem.run_pure, Result.andThen_ok, hfi', hm, hset]
    · cases hu
  · cases hu

/-! ## Iterators -/

def nextStrA (x : AV) (h : Hp) : Option ApR :=
  match x with
  | .it b => match h.at b with
    | some ⟨ver, .siter l pos⟩ => match nth l pos with
      | none => some (.keep (.tup [.bool false]))
      | some c => bif Nat.blt c 128 then some (.wr (.tup [.bool true, .int .i64 (.ofNat pos), .int .i32 (.ofNat c)]) b ⟨ver + 1, .siter l (pos + 1)⟩) else none
    | _ => none
  | _ => none

theorem bys_get {s : ByteArray} {n c : Nat} (h : (bys s)[n]? = some c) : ∃ hlt : n < s.size, s[n].toNat = c := by
  unfold bys at h
  rw [List.getElem?_map] at h
  cases hs : s.data.toList[n]? with
  | none => rw [hs] at h; cases h
  | some b =>
    rw [hs] at h
    cases h
    have hlt : n < s.size := by
      have := (List.getElem?_eq_some_iff.1 hs).1
      simpa using this
    refine ⟨hlt, ?_⟩
    have := (List.getElem?_eq_some_iff.1 hs).2
    rw [← this]; simp; rfl

theorem nextStr_run {P : Program} {σ : Sg} {h : Hp} {nx : Nat} {w : World} (hs : SR σ h nx w) {x : AV} {r : ApR} (hu : nextStrA x h = some r) {x' : Value} (hx : VR σ x x') (t : TypeId) :
    ∃ v' w', (Instr.next x' true t).run P w = .ok v' w' ∧ SR σ (r.hp h nx) (r.nx nx) w' ∧ Fr nx σ w σ w' ∧ VR σ (r.val nx) v' := by
  unfold nextStrA at hu
  split at hu
  · rename_i b
    cases hx with | it hσ =>
    rename_i c
    split at hu
    · rename_i ver l pos hb
      obtain ⟨h0, c', s, h1, h2, rfl⟩ := hs.blk b _ hb
      rw [hσ] at h1
      cases h1
      have hget := getMap_run (P := P) h2 (by simp)
      split at hu
      · rename_i hn
        rw [nth_eq] at hn
        cases hu
        have hge : ¬ pos < s.size := by
          have := List.getElem?_eq_none_iff.1 hn
          rw [bys_length] at this
          omega
        refine ⟨.tuple #[.bool false], w, ?_, hs, Fr.refl _ _ _, .tup (.cons (.bool _) .nil)⟩
        simp only [Instr.next, Sem.run_bind, hget, Result.andThen_ok, if_neg hge, Sem.run_pure]
      · rename_i ch hn
        rw [nth_eq] at hn
        rw [Bool.cond_eq_ite] at hu
        split at hu
        · rename_i hc
          rw [nat_blt] at hc
          simp only [decide_eq_true_eq] at hc
          cases hu
          obtain ⟨hlt, hch⟩ := bys_get hn
          have hdec : Utf8.decode s pos = (ch, 1) := by
            have hg : (s.get! pos).toNat = ch := by
              rw [← hch]
              have : s.get! pos = s[pos] := by
                show s.data[pos]! = _
                rw [getElem!_pos s.data pos hlt]; rfl
              rw [this]
            simp [Utf8.decode, hg, hc]
          have hset := setObj_run (P := P) (o' := .stringIter s (pos + 1)) h2 (by simp)
          obtain ⟨s1, s2⟩ := obj_upd hs hσ (.stringIter s (pos + 1)) ⟨ver + 1, .siter (bys s) (pos + 1)⟩ ⟨h0, c, s, hσ, setW_same _ (lt_of_heap h2), rfl⟩
          refine ⟨.tuple #[.bool true, .int .i64 (pos : Int), .int .i32 (ch : Int)], _, ?_, s1, s2, .tup (.cons (.bool _) (.cons (.int _ _) (.cons (.int _ _) .nil)))⟩
          simp only [Instr.next, Sem.run_bind, hget, Result.andThen_ok, if_pos hlt, hdec, hset, goInt, Sem.run_pure]
        · cases hu
    · cases hu
  · cases hu

theorem ERs.filter {σ : Sg} (p : Nat → Bool) {es : List (AV × AV × Nat)} {es' : List MapEntry} (h : ERs σ es es') : ERs σ (es.filter fun e => p e.2.2) (es'.filter fun e => p e.born) := by
  induction h with
  | nil => exact .nil
  | @cons k v n k' v' es es' hk hv _ ih =>
    simp only [List.filter_cons]
    cases p n
    · simpa using ih
    · simpa using ERs.cons hk hv ih

def nextMapA (x : AV) (h : Hp) : Option ApR :=
  match x with
  | .it b => match h.at b with
    | some ⟨ver, .miter m since seen st⟩ => match h.at m with
      | some ⟨_, .map es clock⟩ =>
        bif !seen.isEmpty && !es.isEmpty && es.all (fun e => Nat.ble st e.2.2) then none else
        match (es.filter fun e => !seen.contains e.2.2).filter (fun e => Nat.blt e.2.2 since), (es.filter fun e => !seen.contains e.2.2).filter (fun e => Nat.ble since e.2.2) with
        | [], [] => some (.keep (.tup [.bool false]))
        | [(k, v, n)], [] => some (.wr (.tup [.bool true, k, v]) b ⟨ver + 1, .miter m since (seen ++ [n]) clock⟩)
        | _, _ => none
      | _ => none
    | _ => none
  | _ => none

theorem ERs.all {σ : Sg} (p : Nat → Bool) {es : List (AV × AV × Nat)} {es' : List MapEntry} (h : ERs σ es es') : es.all (fun e => p e.2.2) = es'.all (fun e => p e.born) := by
  induction h with
  | nil => rfl
  | cons _ _ _ ih => simp [ih]
theorem ERs.empty {σ : Sg} {es : List (AV × AV × Nat)} {es' : List MapEntry} (h : ERs σ es es') : es.isEmpty = es'.isEmpty := by cases h <;> rfl

theorem nextMap_run {P : Program} {σ : Sg} {h : Hp} {nx : Nat} {w : World} (hs : SR σ h nx w) {x : AV} {r : ApR} (hu : nextMapA x h = some r) {x' : Value} (hx : VR σ x x') (t : TypeId) :
    ∃ v' w', (Instr.next x' false t).run P w = .ok v' w' ∧ SR σ (r.hp h nx) (r.nx nx) w' ∧ Fr nx σ w σ w' ∧ VR σ (r.val nx) v' := by
  unfold nextMapA at hu
  split at hu
  · rename_i b
    cases hx with | it hσ =>
    rename_i c
    split at hu
    · rename_i ver m since seen st hb
      obtain ⟨h0, c', m', h1, h2, h3⟩ := hs.blk b _ hb
      rw [hσ] at h1
      cases h1
      have hget := getMap_run (P := P) h2 (by simp)
      split at hu
      · rename_i ver2 es clock hm
        obtain ⟨_, c2, es', k1, k2, k3⟩ := hs.blk m _ hm
        rw [h3] at k1
        cases k1
        have hget2 := getMap_run (P := P) k2 (by simp)
        rw [Bool.cond_eq_ite] at hu
        split at hu
        · cases hu
        · rename_i hcond
          have hfl := ERs.filter (fun n => !seen.contains n) k3
          have hold := ERs.filter (fun n => Nat.blt n since) hfl
          have hnew := ERs.filter (fun n => Nat.ble since n) hfl
          have a1 : ((⟨es'⟩ : Array MapEntry).filter fun e => !(⟨seen⟩ : Array Nat).contains e.born) = ⟨es'.filter fun e => !seen.contains e.born⟩ := by
            apply Array.ext'; simp
          have a2 : ∀ l : List MapEntry, ((⟨l⟩ : Array MapEntry).filter fun e => decide (e.born < since)) = ⟨l.filter fun e => Nat.blt e.born since⟩ := by
            intro l; apply Array.ext'; simp [nat_blt]
          have a3 : ∀ l : List MapEntry, ((⟨l⟩ : Array MapEntry).filter fun e => decide (e.born ≥ since)) = ⟨l.filter fun e => Nat.ble since e.born⟩ := by
            intro l; apply Array.ext'
            have : ∀ a b : Nat, Nat.ble a b = decide (a ≤ b) := fun a b => by rw [Bool.eq_iff_iff]; simp
            simp [this]
          have a4 : ¬ ((!(⟨seen⟩ : Array Nat).isEmpty && !(⟨es'⟩ : Array MapEntry).isEmpty && (⟨es'⟩ : Array MapEntry).all (fun e => decide (e.born ≥ st))) = true) := by
            have e1 : (⟨seen⟩ : Array Nat).isEmpty = seen.isEmpty := by simp
            have e2 : (⟨es'⟩ : Array MapEntry).isEmpty = es.isEmpty := by rw [k3.empty]; simp
            have e3 : (⟨es'⟩ : Array MapEntry).all (fun e => decide (e.born ≥ st)) = es.all (fun e => Nat.ble st e.2.2) := by
              rw [ERs.all (fun n => Nat.ble st n) k3]
              have : ∀ a b : Nat, Nat.ble a b = decide (a ≤ b) := fun a b => by rw [Bool.eq_iff_iff]; simp
              simp [this]
            rw [e1, e2, e3]; exact hcond
          split at hu
          · rename_i ho hn
            rw [ho] at hold
            rw [hn] at hnew
            generalize hlo : (es'.filter fun e => !seen.contains e.born).filter (fun e => Nat.blt e.born since) = lo at hold
            generalize hln : (es'.filter fun e => !seen.contains e.born).filter (fun e => Nat.ble since e.born) = ln at hnew
            cases hold
            cases hnew
            cases hu
            refine ⟨.tuple #[.bool false], w, ?_, hs, Fr.refl _ _ _, .tup (.cons (.bool _) .nil)⟩
            simp only [Instr.next, Sem.run_bind, hget, hget2, Result.andThen_ok]
            rw [if_neg a4]
            simp only [a1, a2, a3, hlo, hln]
            simp [Question.forced]
          · rename_i k v n ho hn
            rw [ho] at hold
            rw [hn] at hnew
            generalize hlo : (es'.filter fun e => !seen.contains e.born).filter (fun e => Nat.blt e.born since) = lo at hold
            generalize hln : (es'.filter fun e => !seen.contains e.born).filter (fun e => Nat.ble since e.born) = ln at hnew
            cases hold with | cons hk hv ht =>
            rename_i k' v' l'
            cases ht
            cases hnew
            cases hu
            have hset := setObj_run (P := P) (o' := .mapIter (some m') since ⟨seen ++ [n]⟩ clock) h2 (by simp)
            obtain ⟨s1, s2⟩ := obj_upd hs hσ (.mapIter (some m') since ⟨seen ++ [n]⟩ clock) ⟨ver + 1, .miter m since (seen ++ [n]) clock⟩ ⟨h0, c, m', hσ, setW_same _ (lt_of_heap h2), h3⟩
            refine ⟨.tuple #[.bool true, k', v'], _, ?_, s1, s2, .tup (.cons (.bool _) (.cons hk (.cons hv .nil)))⟩
            have hpush : (⟨seen⟩ : Array Nat).push n = ⟨seen ++ [n]⟩ := by apply Array.ext'; simp
            simp only [Instr.next, Sem.run_bind, hget, hget2, Result.andThen_ok]
            rw [if_neg a4]
            simp only [a1, a2, a3, hlo, hln]
            simp [Question.forced, hpush, hset]
          · cases hu
      · cases hu
    · cases hu
  · cases hu

def findBorn (s : Nat) : List (AV × AV × Nat) → Option (AV × AV)
  | [] => none
  | (k, v, n) :: es => bif Nat.beq n s then some (k, v) else findBorn s es
theorem findBorn_run {σ : Sg} {s : Nat} : ∀ {es : List (AV × AV × Nat)} {es' : List MapEntry} {k v : AV}, ERs σ es es' → findBorn s es = some (k, v) →
    ∃ e, es'.find? (fun e => e.born == s) = some e ∧ VR σ k e.key ∧ VR σ v e.val
  | [], _, _, _, _, h => by cases h
  | (k1, v1, n1) :: es, es', k, v, he, h => by
    cases he with | cons hk hv t =>
    simp only [findBorn, nat_beq, Bool.cond_eq_ite, decide_eq_true_eq] at h
    split at h
    · rename_i hn
      subst hn
      cases h
      exact ⟨⟨_, _, n1⟩, by simp, hk, hv⟩
    · rename_i hn
      obtain ⟨e, h1, h2⟩ := findBorn_run t h
      exact ⟨e, by simp [hn, h1], h2⟩

def entryOfA (x : AV) (h : Hp) : Option ApR :=
  match x with
  | .it b => match h.at b with
    | some ⟨_, .miter m _ seen st⟩ => match h.at m, seen.getLast? with
      | some ⟨_, .map es clock⟩, some s => bif Nat.beq clock st then
          match findBorn s es with
          | none => none
          | some (k, v) => some (.keep (.tup [k, v]))
        else none
      | _, _ => none
    | _ => none
  | _ => none

theorem entryOf_run {P : Program} {σ : Sg} {h : Hp} {nx : Nat} {w : World} (hs : SR σ h nx w) {x : AV} {r : ApR} (hu : entryOfA x h = some r) {x' : Value} (hx : VR σ x x') :
    ∃ v' w', (Instr.entry x').run P w = .ok v' w' ∧ SR σ (r.hp h nx) (r.nx nx) w' ∧ Fr nx σ w σ w' ∧ VR σ (r.val nx) v' := by
  unfold entryOfA at hu
  split at hu
  · rename_i b
    cases hx with | it hσ =>
    rename_i c
    split at hu
    · rename_i ver m since seen st hb
      obtain ⟨h0, c', m', h1, h2, h3⟩ := hs.blk b _ hb
      rw [hσ] at h1
      cases h1
      have hget := getMap_run (P := P) h2 (by simp)
      split at hu
      · rename_i ver2 es clock s hm hseen
        obtain ⟨_, c2, es', k1, k2, k3⟩ := hs.blk m _ hm
        rw [h3] at k1
        cases k1
        have hget2 := getMap_run (P := P) k2 (by simp)
        rw [Bool.cond_eq_ite] at hu
        split at hu
        · rename_i hc
          simp only [nat_beq, decide_eq_true_eq] at hc
          subst hc
          split at hu
          · cases hu
          · rename_i k v hf
            cases hu
            obtain ⟨e, e1, e2, e3⟩ := findBorn_run k3 hf
            have hback : (⟨seen⟩ : Array Nat).back? = some s := by
              show seen.toArray.back? = _
              simpa using hseen
            have hfind : (⟨es'⟩ : Array MapEntry).find? (fun e => e.born == s) = some e := by
              show es'.toArray.find? _ = _
              simpa using e1
            refine ⟨_, w, ?_, hs, Fr.refl _ _ _, .tup (.cons e2 (.cons e3 .nil))⟩
            simp [Instr.entry, hget, hget2, hback, hfind]
        · cases hu
      · cases hu
    · cases hu
  · cases hu

/-! ## clear; texts and bytes -/

def clearA (P : Program) (t : TypeId) (x : AV) (h : Hp) : Option ApR :=
  match ty P t, x with
  | some i, .nsl => match i.d with
    | .slice _ => some (.keep (.tup []))
    | _ => none
  | some i, .sl b g off len sz _ _ => match i.d with
    | .slice e => bif Nat.beq len 0 then some (.keep (.tup [])) else
      match ty P e, h.at b with
      | some ei, some ⟨ver, .cells cs bl gen wgen pl⟩ => match ei.zero with
        | none => none
        | some z => bif z.nt && Nat.beq z.cells.length sz && Nat.ble 1 sz && Nat.beq g gen && Nat.ble (off + len * sz) bl then
            some (.wr (.tup []) b ⟨ver + 1, .cells (spl cs off (repC len z.cells)) bl gen (bif Nat.ble pl off then wgen else gen) pl⟩) else none
      | _, _ => none
    | _ => none
  | _, _ => none

theorem clear_run {P : Program} {σ : Sg} {h : Hp} {nx : Nat} {w : World} (hs : SR σ h nx w) {t : TypeId} {x : AV} {r : ApR} (hu : clearA P t x h = some r) {x' : Value} (hx : VR σ x x') (ty' : TypeId) :
    ∃ w', (Builtin.clear_ #[t] ty' #[x']).run P w = .ok (.tuple #[]) w' ∧ SR σ (r.hp h nx) (r.nx nx) w' ∧ Fr nx σ w σ w' ∧ r.val nx = .tup [] := by
  unfold clearA at hu
  split at hu
  · rename_i i hi
    have hun := ty_run hi w
    cases hx
    split at hu
    · rename_i e hd
      rw [hd] at hun
      cases hu
      refine ⟨w, ?_, hs, Fr.refl _ _ _, rfl⟩
      simp [Builtin.clear_, hun]
    · cases hu
  · rename_i i b g off len sz k ex hi
    have hun := ty_run hi w
    cases hx with | sl hσ he hl hk hn hN hc hxN =>
    rename_i c n0 N cap'
    split at hu
    · rename_i e hd
      rw [hd] at hun
      rw [Bool.cond_eq_ite] at hu
      split at hu
      · rename_i h0
        simp only [nat_beq, decide_eq_true_eq] at h0
        subst h0
        cases hu
        refine ⟨w, ?_, hs, Fr.refl _ _ _, rfl⟩
        simp [Builtin.clear_, hun]
      · rename_i h0
        simp only [nat_beq, decide_eq_true_eq] at h0
        split at hu
        · rename_i ei ver cs bl gen wgen pl hei hb
          split at hu
          · cases hu
          · rename_i z hz
            rw [Bool.cond_eq_ite] at hu
            split at hu
            · rename_i hcnd
              simp only [Bool.and_eq_true, nat_beq, decide_eq_true_eq, Nat.ble_eq] at hcnd
              obtain ⟨⟨⟨⟨hnt, hzl⟩, hpos⟩, rfl⟩, hfit⟩ := hcnd
              cases hu
              obtain ⟨z', rz, oz⟩ := ty_zero hei hz
              have vz : VR σ z z' := ofV_vr oz
              have vc := vz.cells
              have hzl' : z'.cells.size = sz := by rw [← hzl, vc.length]; simp
              have vr := repC_run vc sz hzl len
              have hlen : 1 ≤ len * sz := Nat.mul_pos (by omega) hpos
              obtain ⟨w', q1, q2, q3⟩ := write_run (P := P) hs hb hσ vr (repC_one (cells_one vz hnt) len) (off := off) (by rw [repC_length, hzl]; exact hfit)
                (by intro e0; have := repC_length len z.cells; rw [e0, hzl] at this; simp at this; omega) (ver + 1)
              refine ⟨w', ?_, q2, q3, rfl⟩
              obtain ⟨len, rfl⟩ : ∃ k, len = k + 1 := ⟨len - 1, by omega⟩
              have hzc : Builtin.zeroCells z'.cells (len + 1) = (Array.range ((len + 1) * sz)).map fun i => z'.cells[i % z'.cells.size]! := by
                simp only [Builtin.zeroCells, hzl']
              simp only [Builtin.clear_, List.getElem?_toArray, List.getElem?_cons_zero, Sem.run_bind, hun, Result.andThen_ok, rz, hzc, q1, Sem.run_pure]
            · cases hu
        · cases hu
    · cases hu
  · cases hu

def bytesA : List AV → Option (List Nat)
  | [] => some []
  | .int .u8 (.ofNat n) :: l => bif Nat.blt n 256 then
      match bytesA l with
      | none => none
      | some r => some (n :: r)
    else none
  | _ => none

theorem bytesA_run {σ : Sg} : ∀ {l : List AV} {r : List Nat} {l' : List Value}, bytesA l = some r → VRs σ l l' → ∃ bs : List UInt8, r = bs.map (·.toNat) ∧ l' = bs.map fun b => Value.int .u8 b.toNat
  | [], r, l', h, hl => by cases h; cases hl; exact ⟨[], rfl, rfl⟩
  | a :: l, r, l', h, hl => by
    cases hl with | cons ha hl =>
    unfold bytesA at h
    split at h
    · rename_i heq
      cases heq
    · rename_i n l2 heq
      cases heq
      cases ha
      rw [Bool.cond_eq_ite] at h
      split at h
      · rename_i hn
        rw [nat_blt] at hn
        simp only [decide_eq_true_eq] at hn
        split at h
        · cases h
        · rename_i r2 hr2
          cases h
          obtain ⟨bs, rfl, rfl⟩ := bytesA_run hr2 hl
          have e : (UInt8.ofNat n).toNat = n := by simp; omega
          exact ⟨UInt8.ofNat n :: bs, by simp [e], by simp [e]⟩
      · cases h
    · cases h

def toStrA (P : Program) (src dst : TypeId) (x : AV) (h : Hp) : Option ApR :=
  match ty P src, ty P dst with
  | some si, some di => match si.d, di.d with
    | .slice e, .string => match ty P e with
      | none => none
      | some ei => match ei.d with
        | .int .u8 => match srcA x 1 h, x with
          | some (_, cs), .sl _ _ _ _ _ _ _ => match bytesA cs with
            | none => none
            | some l => some (.keep (.str l))
          | some _, .nsl => some (.keep (.str []))
          | _, _ => none
        | _ => none
    | .string, .slice e => match ty P e with
      | none => none
      | some ei => match ei.d with
        | .int .u8 => match x with
          | .str l => bif Nat.ble l.length 1000000000 then some (.mk (.cells (l.map fun c => .int .u8 (.ofNat c)) l.length 0 0 0) fun nm => .sl nm 0 0 l.length 1 l.length false) else none
          | _ => none
        | _ => none
    | _, _ => none
  | _, _ => none

theorem bytes_loop {P : Program} (w : World) : ∀ (bs : List UInt8) (s : ByteArray),
    (forIn (bs.map fun b => Value.int .u8 (b.toNat : Int)) s (fun c s => (do
      match c with
      | .int .u8 n => pure (ForInStep.yield (s.push (UInt8.ofNat n.toNat)))
      | _ => stuck "bytesToString: byte expected" : Sem (ForInStep ByteArray)))).run P w = .ok ⟨⟨s.data.toList ++ bs⟩⟩ w
  | [], s => by simp
  | b :: bs, s => by
    simp only [List.map_cons, List.forIn_cons, Sem.run_bind, Sem.run_pure, Result.andThen_ok]
    rw [bytes_loop w bs]
    congr 3
    simp [ByteArray.push]

theorem toStr_run {P : Program} {σ : Sg} {h : Hp} {nx : Nat} {w : World} (hs : SR σ h nx w) {src dst : TypeId} {x : AV} {r : ApR} (hu : toStrA P src dst x h = some r) {x' : Value} (hx : VR σ x x') :
    ∃ σ' v' w', (convert src dst x').run P w = .ok v' w' ∧ SR σ' (r.hp h nx) (r.nx nx) w' ∧ Fr nx σ w σ' w' ∧ VR σ' (r.val nx) v' := by
  unfold toStrA at hu
  split at hu
  · rename_i si di h1 h2
    have hu1 := ty_run h1
    have hu2 := ty_run h2
    split at hu
    · rename_i e hd1 hd2
      rw [hd1] at hu1
      rw [hd2] at hu2
      split at hu
      · cases hu
      · rename_i ei hei
        have hue := ty_run hei
        split at hu
        · rename_i hde
          rw [hde] at hue
          split at hu
          · rename_i m cs b g off len sz k ex hsrc
            split at hu
            · cases hu
            · rename_i l hl
              cases hu
              obtain ⟨new', q1, q2, q3, _, q5⟩ := src_run (P := P) hs hsrc hx
              obtain ⟨bs, rfl, rfl⟩ := bytesA_run hl q3
              have hq2 := q2 w.drawn
              cases hx with | sl hσ he hl hk hn hN hc hxN =>
              have hm : m = len := by simpa [Builtin.lenOf] using q1.symm
              subst hm
              refine ⟨σ, .string ⟨⟨bs⟩⟩, w, ?_, hs, Fr.refl _ _ _, ?_⟩
              · simp only [convert, Sem.run_bind, hu1, hu2, hue, Result.andThen_ok, Conv.bytesToString]
                simp only [Builtin.firstCells, Nat.mul_one] at hq2
                simp only [hq2, Result.andThen_ok]
                have := bytes_loop (P := P) w bs .empty
                rw [← Array.forIn_toList]
                simp only [Sem.run_bind]
                rw [show (ByteArray.empty.data.toList ++ bs) = bs from rfl] at this
                refine Eq.trans (congrArg (fun r => Result.andThen r _) this) ?_
                rfl
              · have : bs.map (·.toNat) = bys ⟨⟨bs⟩⟩ := rfl
                show VR σ (.str (bs.map (·.toNat))) _
                rw [this]; exact .str _
          · cases hu
            cases hx
            refine ⟨σ, .string .empty, w, ?_, hs, Fr.refl _ _ _, ?_⟩
            · simp only [convert, Sem.run_bind, hu1, hu2, hue, Result.andThen_ok, Conv.bytesToString, Sem.run_pure]
            · exact VR.str .empty
          · cases hu
        · cases hu
    · rename_i e hd1 hd2
      rw [hd1] at hu1
      rw [hd2] at hu2
      split at hu
      · cases hu
      · rename_i ei hei
        have hue := ty_run hei
        split at hu
        · rename_i hde
          rw [hde] at hue
          split at hu
          · rename_i l
            rw [Bool.cond_eq_ite] at hu
            split at hu
            · rename_i hlen
              rw [Nat.ble_eq, ] at hlen
              cases hu
              cases hx with | str s =>
              rw [bys_length] at hlen
              have hun : ∀ g, σ nx g = none := hs.nm nx (Nat.le_refl _)
              let cap := (Question.appendCap s.size 0 e).cut (w.tape w.drawn (.appendCap s.size 0 e))
              have hcap : s.size ≤ cap := by simp only [cap, Question.cut]; omega
              let cells : Array Value := (s.data.map fun b => Value.int .u8 (b.toNat : Int)) ++ Array.replicate (cap - s.size) (.int .u8 0)
              have hsz : cells.size = cap := by
                simp only [cells, Array.size_append, Array.size_map, Array.size_replicate]
                have : s.data.size = s.size := rfl
                omega
              have hfr := fresh_cells hun (w := { w with drawn := w.drawn + 1 }) (cs := (bys s).map fun c => AV.int .u8 (.ofNat c)) (cells := cells) (e := e) (lo := cap) (hi := cap + 1)
                (by
                  have e1 : cells.toList.take ((bys s).map fun c => AV.int .u8 (.ofNat c)).length = s.data.toList.map fun b => Value.int .u8 (b.toNat : Int) := by
                    simp only [cells, Array.toList_append, Array.toList_map, List.length_map, bys_length]
                    rw [List.take_append_of_le_length (by simp), List.take_of_length_le (by simp)]
                  rw [e1]
                  exact u8_cells _)
                (by intro v hv; obtain ⟨c, _, rfl⟩ := List.mem_map.1 hv; rfl)
                (by rw [hsz]; simpa [bys_length] using hcap) (by intro i hi; omega)
              have hll : ((bys s).map fun c => AV.int .u8 (.ofNat c)).length = s.size := by simp [bys_length]
              rw [hll, hsz] at hfr
              refine ⟨σ.add nx 0 (w.heap.size, s.size, cap), .slice (some ⟨w.heap.size, 0, none⟩) s.size cap, newW { w with drawn := w.drawn + 1 } (.cells cells e (cap, cap + 1)), ?_, ?_, ?_, ?_⟩
              · have hforced : (Question.appendCap s.size 0 e).forced = false := rfl
                simp only [convert, Sem.run_bind, hu1, hu2, hue, Result.andThen_ok, Conv.stringToBytes, run_choose, hforced, Bool.false_eq_true, if_false, newRow, run_newObj, Sem.run_pure]
                have hshape : ({ w with drawn := w.drawn + 1, heap := w.heap.push (.cells cells e (0, 0)) } : World).shape? w.heap.size = some (e, cap) := by
                  simp [World.shape?, hsz]
                simp only [markStringish, Sem.run_bind, run_shape]
                rw [show ({ w with heap := w.heap.push (.cells cells e (0, 0)), drawn := w.drawn + 1 } : World) = { w with drawn := w.drawn + 1, heap := w.heap.push (.cells cells e (0, 0)) } from rfl] at *
                simp only [cap, cells] at hshape ⊢
                rw [hshape]
                simp only [Result.andThen_ok, run_freeze, World.freeze, newW]
                congr 1
                simp only [Nat.succ_ne_zero, if_false]
                congr 1
                apply Array.ext
                · simp
                · intro j j1 j2
                  rw [Array.getElem_modify]
                  simp only [Array.getElem_push]
                  by_cases hj : w.heap.size = j
                  · subst hj; simp
                  · have : j < w.heap.size := by simp at j1; omega
                    simp [this, hj]
              · show SR _ (h.set nx ⟨0, .cells _ (bys s).length 0 0 0⟩) (nx + 1) _
                rw [bys_length]
                exact (hs.drawn (w.drawn + 1)).alloc hun _ ⟨0, _⟩ _ _ (nx + 1) (by omega) (by omega) hfr
              · exact (Fr.drawn (w.drawn + 1)).trans (Fr.alloc hun (Nat.le_refl _) _ _ _) (Nat.le_refl _)
              · show VR _ (.sl nx 0 0 (bys s).length 1 (bys s).length false) _
                rw [bys_length]
                exact .sl (Sg.add_same _ _ _ _) (by omega) (Nat.le_refl _) hcap hcap (by omega) (fun e => by cases e) (fun _ => by omega)
            · cases hu
          · cases hu
        · cases hu
    · cases hu
  · cases hu
end Go.Proofs.YtoiojhmfndmflaaGreatDoor.Rex

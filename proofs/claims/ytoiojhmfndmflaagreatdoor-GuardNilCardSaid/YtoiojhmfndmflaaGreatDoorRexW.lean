/-
  Rex, part W: which block of memory a store, or a map's filling, leaves turned.
-/
import Derived.Test.YtoiojhmfndmflaaGreatDoorRexV
namespace Go.Proofs.YtoiojhmfndmflaaGreatDoor.Rex
open Go

/-- At most block c has turned. -/
def Loc (c : Nat) (w w' : World) : Prop := w'.heap.size = w.heap.size ∧ ∀ c', c' ≠ c → w'.heap[c']? = w.heap[c']?

/-- The whole of it: cells stored at a place of a row, by a name of the present generation. -/
theorem write_run2 {P : Program} {σ : Sg} {h : Hp} {nx : Nat} {w : World} (hs : SR σ h nx w) {b ver : Nat} {cs : List AV} {len gen wgen pl : Nat}
    (hb : h.at b = some ⟨ver, .cells cs len gen wgen pl⟩) {c n N : Nat} (hσ : σ b gen = some (c, n, N)) {new : List AV} {new' : List Value} (hn : VRs σ new new') (h1 : ∀ v ∈ new, v.one = true)
    {off : Nat} (hoff : off + new.length ≤ len) (hne : new ≠ []) (ver' : Nat) :
    ∃ w', (storeCells ⟨c, off, none⟩ new').run P w = .ok () w' ∧ SR σ (h.set b ⟨ver', .cells (spl cs off new) len gen (bif Nat.ble pl off then wgen else gen) pl⟩) nx w' ∧ Fr nx σ w σ w' ∧ Loc c w w' := by
  have ho := hs.blk b _ hb
  obtain ⟨c', N', hσ'⟩ := ho.2.2.2.2.1
  rw [hσ] at hσ'
  cases hσ'
  obtain ⟨_, cells, e, lo, hi, q1, q2, q3, q4, q5⟩ := ho.2.2.2.2.2.1 gen c len N (Nat.le_refl _) ho.2.1 hσ
  have hnl := hn.length
  have hne' : new' ≠ [] := by intro e0; subst e0; simp at hnl; exact hne hnl
  have ho1 : ∀ v ∈ new', v.oneCell' = true := by
    intro v hv
    obtain ⟨i, hi', e0⟩ := List.getElem_of_mem hv
    obtain ⟨u, hu, hvu⟩ := hn.get' (List.getElem?_eq_some_iff.2 ⟨hi', e0⟩)
    rw [hvu.one]
    exact h1 u (List.mem_of_getElem? hu)
  have hst := storeCells_run (P := P) new' 0 w c off cells e lo hi q1 (by omega) (fun j hj => q5 j (by omega)) ho1
  rw [if_neg hne'] at hst
  simp only [Nat.add_zero] at hst
  refine ⟨_, hst, ?_, ?_, setW_size _ _ _, fun c' hc' => setW_other _ _ hc'⟩
  · exact hs.upd hσ _ (setW_size _ _ _) (fun c' hc' => setW_other _ _ hc') (row_write ho hσ q1 hn h1 hoff)
  · exact Fr.upd hσ (setW_size _ _ _) (fun c' hc' => setW_other _ _ hc') rfl rfl rfl

theorem store_run2 {P : Program} {σ : Sg} {h : Hp} {nx : Nat} {w : World} (hs : SR σ h nx w) {t : TypeId} {p v : AV} {b : Nat} {x : Bk} (hst : storeA P t p v h = some (b, x)) {p' v' : Value}
    (hp : VR σ p p') (hv : VR σ v v') : ∃ w', (Instr.storeAt t p' v').run P w = .ok () w' ∧ SR σ (h.set b x) nx w' ∧ Fr nx σ w σ w' ∧ ∃ g r, σ b g = some r ∧ Loc r.1 w w' := by
  unfold storeA at hst
  split at hst
  · rename_i i b' g off ext hi
    cases hp with | ptr hσ he hnN =>
    rename_i c n N
    split at hst
    · rename_i ver cs len gen wgen pl hb
      rw [Bool.cond_eq_ite] at hst
      split at hst
      · rename_i hc
        simp only [Bool.and_eq_true, nat_beq, decide_eq_true_eq, Nat.ble_eq] at hc
        obtain ⟨⟨⟨⟨rfl, hnt⟩, hlen⟩, hext⟩, hpos⟩ := hc
        cases hst
        have ho := hs.blk _ _ hb
        have hn : n ≤ len := (ho.2.2.2.2.2.1 g c n N (Nat.le_refl _) ho.2.1 hσ).1
        obtain ⟨w', h1, h2, h3, h4⟩ := write_run2 (P := P) hs hb hσ hv.cells (cells_one hv hnt) (off := off) (by omega) (by intro e; rw [e] at hlen; simp at hlen; omega) (ver + 1)
        refine ⟨w', ?_, h2, h3, g, _, hσ, h4⟩
        have hl := hv.cells.length
        have hsz : v'.cells.size = i.size := by rw [← hlen, hl]; simp
        simp only [Instr.storeAt, Instr.sureAddr, Sem.run_bind, Sem.run_pure, Result.andThen_ok, storeVar, ty_size hi, hsz, ne_eq, not_true, if_false]
        exact h1
      · cases hst
    · cases hst
  · cases hst
theorem upd_run2 {P : Program} {σ : Sg} {h : Hp} {nx : Nat} {w : World} (hs : SR σ h nx w) {t : TypeId} {m k v : AV} {r : ApR} (hu : updA P t m k v h = some r) {m' k' v' : Value}
    (hm : VR σ m m') (hk : VR σ k k') (hv : VR σ v v') :
    ∃ w', (Instr.mapUpdate t m' k' v').run P w = .ok () w' ∧ SR σ (r.hp h nx) (r.nx nx) w' ∧ Fr nx σ w σ w' ∧ ∀ v0 b x, r = .wr v0 b x → ∃ g r, σ b g = some r ∧ Loc r.1 w w' := by
  unfold updA at hu
  split at hu
  · rename_i i b hi
    have hun := ty_run hi w
    cases hm with | map hσ =>
    rename_i c
    split at hu
    · rename_i kt et ver es clock hd hb
      rw [hd] at hun
      obtain ⟨h0, c', es', h1, h2, h3⟩ := hs.blk b _ hb
      rw [hσ] at h1
      cases h1
      have hget := getMap_run (P := P) h2 (by simp)
      split at hu
      · cases hu
      · rename_i ki hki
        rw [Bool.cond_eq_ite] at hu
        split at hu
        · rename_i hc
          have hck := chk_run (P := P) (emp := false) (w := w) 3 kt k hc 10000 (by omega) k' hk
          split at hu
          · cases hu
          · rename_i hf
            cases hu
            obtain ⟨r', hr, hfr⟩ := findKey_run hki hk hf h3 w
            cases hfr
            have hset := setObj_run (P := P) (o' := .map ⟨es' ++ [⟨k', v', clock⟩]⟩ (clock + 1)) h2 (by simp)
            have hpush : (⟨es'⟩ : Array MapEntry).push ⟨k', v', clock⟩ = ⟨es' ++ [⟨k', v', clock⟩]⟩ := by apply Array.ext'; simp
            obtain ⟨s1, s2⟩ := obj_upd hs hσ (.map ⟨es' ++ [⟨k', v', clock⟩]⟩ (clock + 1)) ⟨ver + 1, .map (es ++ [(k, v, clock)]) (clock + 1)⟩
              ⟨h0, c, _, hσ, setW_same _ (lt_of_heap h2), h3.append (.cons hk hv .nil)⟩
            refine ⟨_, ?_, s1, s2, fun v0 b0 x0 e0 => by cases e0; exact ⟨0, _, hσ, setW_size _ _ _, fun c' hc' => setW_other _ _ hc'⟩⟩
            simp only [Instr.mapUpdate, Sem.run_bind, hun, hget, hck, hr, Result.andThen_ok, hpush, hset]
          · rename_i ix u hf
            obtain ⟨r', hr, hfr⟩ := findKey_run hki hk hf h3 w
            cases hfr
            split at hu
            · cases hu
            · rename_i k0 v0 n hn
              rw [nth_eq] at hn
              obtain ⟨k0', v0', e', vk0, _⟩ := h3.get hn
              rw [Bool.cond_eq_ite] at hu
              split at hu
              · rename_i hsb
                cases hu
                have hkeep : (Instr.keyThatStays k0' k').run P w = .ok k' w := by simp [Instr.keyThatStays, sbA_run hsb vk0 hk]
                have hset := setObj_run (P := P) (o' := .map ⟨es'.set ix ⟨k', v', n⟩⟩ clock) h2 (by simp)
                obtain ⟨s1, s2⟩ := obj_upd hs hσ (.map ⟨es'.set ix ⟨k', v', n⟩⟩ clock) ⟨ver + 1, .map (es.set ix (k, v, n)) clock⟩
                  ⟨h0, c, _, hσ, setW_same _ (lt_of_heap h2), h3.set hk hv ix⟩
                refine ⟨_, ?_, s1, s2, fun v0 b0 x0 e0 => by cases e0; exact ⟨0, _, hσ, setW_size _ _ _, fun c' hc' => setW_other _ _ hc'⟩⟩
                have hm := modify_set es' ix _ (fun e => { e with key := k', val := v' }) e'
                have hgi : ((⟨es'⟩ : Array MapEntry)[ix]?) = some ⟨k0', v0', n⟩ := by
                  show es'.toArray[ix]? = _
                  simp [e']
                simp only [Instr.mapUpdate, Sem.run_bind, hun, hget, hck, hr, Result.andThen_ok, hgi, Option.map_some, Option.getD_some, hkeep, hm, hset]
              · cases hu
        · cases hu
    · cases hu
  · cases hu

end Go.Proofs.YtoiojhmfndmflaaGreatDoor.Rex

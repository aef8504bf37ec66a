/-
  Rex, part X: a drawn region's run in the order of the text: what each step is; the invariant of a run in whatever order.
-/
import Derived.Test.YtoiojhmfndmflaaGreatDoorRexW
namespace Go.Proofs.YtoiojhmfndmflaaGreatDoor.Rex
open Go

/-! ## A naming cut -/

def cut (σ : Sg) (n : Nat) : Sg := fun b g => if b < n then σ b g else none
theorem cut_lt {σ : Sg} {n b : Nat} (h : b < n) (g : Nat) : cut σ n b g = σ b g := by simp [cut, h]
theorem cut_ge {σ : Sg} {n b : Nat} (h : n ≤ b) (g : Nat) : cut σ n b g = none := by simp only [cut]; rw [if_neg (by omega)]
theorem cut_some {σ : Sg} {n b g : Nat} {r : Nat × Nat × Nat} (h : cut σ n b g = some r) : b < n ∧ σ b g = some r := by
  simp only [cut] at h
  split at h
  · rename_i hb; exact ⟨hb, h⟩
  · cases h
theorem cut_le (σ : Sg) (n : Nat) : Sg.le (cut σ n) σ := fun _ _ _ h => (cut_some h).2
theorem cut_mono (σ : Sg) {n m : Nat} (h : n ≤ m) : Sg.le (cut σ n) (cut σ m) := fun b g r e => by
  obtain ⟨h1, h2⟩ := cut_some e
  rw [cut_lt (by omega)]; exact h2
theorem cut_of_le {σ σ' : Sg} (h : Sg.le σ σ') (n : Nat) : Sg.le (cut σ n) (cut σ' n) := fun b g r e => by
  obtain ⟨h1, h2⟩ := cut_some e
  rw [cut_lt h1]; exact h _ _ _ h2

theorem ObR.mapped {σ : Sg} {b : Nat} {o : Blk} {w : World} (h : ObR σ b o w) : ∃ g r, σ b g = some r := by
  cases o with
  | cells cs len gen wgen pl => obtain ⟨_, _, _, _, ⟨c, N, h⟩, _⟩ := h; exact ⟨_, _, h⟩
  | map es clock => obtain ⟨_, c, es', h, _⟩ := h; exact ⟨_, _, h⟩
  | siter l pos => obtain ⟨_, c, s, h, _⟩ := h; exact ⟨_, _, h⟩
  | miter m since seen st => obtain ⟨_, c, s, h, _⟩ := h; exact ⟨_, _, h⟩
  | loop l => obtain ⟨_, c, _, _, h, _⟩ := h; exact ⟨_, _, h⟩
  | dfr o => obtain ⟨_, c, h, _⟩ := h; exact ⟨_, _, h⟩

theorem SR.bd {σ : Sg} {h : Hp} {n : Nat} {w : World} (hs : SR σ h n w) {b : Nat} {x : Bk} (hb : h.at b = some x) : b < n := by
  obtain ⟨g, r, e⟩ := (hs.blk b x hb).mapped
  rcases Nat.lt_or_ge b n with hlt | hge
  · exact hlt
  · rw [hs.nm b hge g] at e; cases e

theorem ObR.cut_mono {σ : Sg} {n m b : Nat} {o : Blk} {w : World} (h : ObR (cut σ n) b o w) (hnm : n ≤ m) : ObR (cut σ m) b o w := by
  obtain ⟨g0, r0, e0⟩ := h.mapped
  have hb := (cut_some e0).1
  exact h.keep (Go.Proofs.YtoiojhmfndmflaaGreatDoor.Rex.cut_mono σ hnm) (fun g => by rw [cut_lt hb, cut_lt (by omega)]) fun _ _ _ => rfl

/-! ## What a step in the order of the text is -/

section
variable (P : Program) (ib : Nat) (cf : CallF) (rf : RndF) (rb : Bool) (ops : Array Oper)

inductive Did (o : Oper) (s : DSt) : Rz → DSt → Prop where
  | skip {a : Ac} (hg : gdA (see ops o s.a.tm) (guardOf ops.toList o) = some false) (hp : s.a.put o.dst (.tup []) = some a) : Did o s .val ⟨a, s.h, s.n⟩
  | pure {a : Ac} {v : AV} (hg : gdA (see ops o s.a.tm) (guardOf ops.toList o) = some true) (hv : pureOp P (evA (see ops o s.a.tm)) o.op = some v) (hp : s.a.put o.dst v = some a) : Did o s .val ⟨a, s.h, s.n⟩
  | read {a : Ac} {v : AV} {bs : List Nat} (hg : gdA (see ops o s.a.tm) (guardOf ops.toList o) = some true) (hv : readOp P (evA (see ops o s.a.tm)) o.op (cutH s.h bs) = some v)
      (hp : s.a.put o.dst v = some a) : Did o s (.read v bs) ⟨a, s.h, s.n⟩
  | alloc {a : Ac} {x : Blk} {f : Nat → AV} (hg : gdA (see ops o s.a.tm) (guardOf ops.toList o) = some true) (hv : allocOp P (evA (see ops o s.a.tm)) o.op = some (x, f))
      (hp : s.a.put o.dst (f s.n) = some a) : Did o s (.alloc x) ⟨a, s.h.set s.n ⟨0, x⟩, s.n + 1⟩
  | store {a : Ac} {b : Nat} {x : Bk} (hg : gdA (see ops o s.a.tm) (guardOf ops.toList o) = some true) (hv : storeOp P (evA (see ops o s.a.tm)) o.op s.h = some (b, x)) (hb : b < s.n)
      (hp : s.a.put o.dst (.tup []) = some a) : Did o s (.store b) ⟨a, s.h.set b x, s.n⟩
  | heavy {a : Ac} {h : Hp} {n : Nat} {tm : Tr AV} (hg : gdA (see ops o s.a.tm) (guardOf ops.toList o) = some true)
      (hv : opX P ib cf rf rb o { s.a with tm := see ops o s.a.tm } s.h s.n = .ok a h n) (hn : s.n ≤ n)
      (ht : (o.dst = none ∧ tm = s.a.tm) ∨ ∃ d v, o.dst = some d ∧ a.tm.at d = some v ∧ tm = s.a.tm.set d v) : Did o s .heavy ⟨⟨tm, s.a.nt, a.df, a.up⟩, h, n⟩

theorem dput_some {z z' : Rz} {o : Oper} {s s' : DSt} {v : AV} {h : Hp} {n : Nat} (e : dput z o s v h n = some (z', s')) : ∃ a, s.a.put o.dst v = some a ∧ z' = z ∧ s' = ⟨a, h, n⟩ := by
  unfold dput at e
  split at e
  · cases e
  · rename_i a ha; cases e; exact ⟨a, ha, rfl, rfl⟩

theorem dstep_did {o : Oper} {s s' : DSt} {z : Rz} (e : dstep P ib cf rf rb ops o s = some (z, s')) : Did P ib cf rf rb ops o s z s' := by
  unfold dstep at e
  simp only at e
  split at e
  · cases e
  · rename_i hg
    obtain ⟨a, h1, rfl, rfl⟩ := dput_some e
    exact .skip hg h1
  · rename_i hg
    split at e
    · rename_i v hv
      obtain ⟨a, h1, rfl, rfl⟩ := dput_some e
      exact .pure hg hv h1
    · split at e
      · rename_i v hv
        obtain ⟨a, h1, rfl, rfl⟩ := dput_some e
        exact .read hg hv h1
      · split at e
        · rename_i x f hv
          obtain ⟨a, h1, rfl, rfl⟩ := dput_some e
          exact .alloc hg hv h1
        · split at e
          · rename_i b x hv
            rw [Bool.cond_eq_ite] at e
            split at e
            · rename_i hb
              rw [nat_blt] at hb
              obtain ⟨a, h1, rfl, rfl⟩ := dput_some e
              exact .store hg hv (by simpa using hb) h1
            · cases e
          · split at e
            · rename_i a h n hv
              rw [Bool.cond_eq_ite] at e
              split at e
              · rename_i hn
                have hn := Nat.le_of_ble_eq_true hn
                split at e
                · rename_i hd
                  cases e
                  exact .heavy hg hv hn (.inl ⟨hd, rfl⟩)
                · rename_i d hd
                  split at e
                  · cases e
                  · rename_i v hav
                    cases e
                    exact .heavy hg hv hn (.inr ⟨d, v, hd, hav, rfl⟩)
              · cases e
            · cases e

variable {P ib cf rf rb ops}

theorem put_at {a a' : Ac} {d : Option Tmp} {v : AV} (h : a.put d v = some a') : a'.nt = a.nt ∧ a'.df = a.df ∧ a'.up = a.up ∧ (∀ t, d ≠ some t → a'.tm.at t = a.tm.at t) ∧ (∀ t, d = some t → a'.tm.at t = some v ∧ t < a.nt) := by
  cases d with
  | none => cases h; exact ⟨rfl, rfl, rfl, fun _ _ => rfl, fun _ e => by cases e⟩
  | some d =>
    simp only [Ac.put, Bool.cond_eq_ite] at h
    split at h
    · rename_i hd
      rw [nat_blt] at hd
      cases h
      refine ⟨rfl, rfl, rfl, fun t ht => ?_, fun t ht => ?_⟩
      · show (a.tm.set d v).at t = _
        rw [Tr.at_set, if_neg (fun e => ht (by rw [e]))]
      · cases ht
        refine ⟨?_, by simpa using hd⟩
        show (a.tm.set d v).at d = _
        rw [Tr.at_set, if_pos rfl]
    · cases h

theorem storeOp_at {ev : Ev} {op : Op} {h : Hp} {b : Nat} {x : Bk} (hs : storeOp P ev op h = some (b, x)) : ∃ y, h.at b = some y := by
  unfold storeOp at hs
  split at hs
  · split at hs
    · split at hs
      · cases hs
      · rename_i y hy
        unfold storeA at hs
        split at hs
        · rename_i i b' g' off' ext' hi he
          split at hs
          · rw [Bool.cond_eq_ite] at hs
            split at hs
            · cases hs
              cases he
              exact ⟨y, hy⟩
            · cases hs
          · cases hs
        · cases hs
    · cases hs
  · split at hs
    · split at hs
      · cases hs
      · rename_i y hy
        split at hs
        · rw [Bool.cond_eq_ite] at hs
          split at hs
          · cases hs; exact ⟨y, hy⟩
          · cases hs
        · cases hs
    · cases hs
  · cases hs

theorem Did.n_le {o : Oper} {s s' : DSt} {z : Rz} (h : Did P ib cf rf rb ops o s z s') : s.n ≤ s'.n := by
  cases h <;> first | exact Nat.le_refl _ | exact Nat.le_succ _ | assumption
theorem Did.nt {o : Oper} {s s' : DSt} {z : Rz} (h : Did P ib cf rf rb ops o s z s') : s'.a.nt = s.a.nt := by
  cases h with
  | skip _ hp => exact (put_at hp).1
  | pure _ _ hp => exact (put_at hp).1
  | read _ _ hp => exact (put_at hp).1
  | alloc _ _ hp => exact (put_at hp).1
  | store _ _ _ hp => exact (put_at hp).1
  | heavy => rfl
theorem Did.tm {o : Oper} {s s' : DSt} {z : Rz} (h : Did P ib cf rf rb ops o s z s') {t : Tmp} (ht : o.dst ≠ some t) : s'.a.tm.at t = s.a.tm.at t := by
  cases h with
  | skip _ hp => exact (put_at hp).2.2.2.1 t ht
  | pure _ _ hp => exact (put_at hp).2.2.2.1 t ht
  | read _ _ hp => exact (put_at hp).2.2.2.1 t ht
  | alloc _ _ hp => exact (put_at hp).2.2.2.1 t ht
  | store _ _ _ hp => exact (put_at hp).2.2.2.1 t ht
  | heavy _ _ _ h =>
    rcases h with ⟨_, rfl⟩ | ⟨d, v, hd, _, rfl⟩
    · rfl
    · show (s.a.tm.set d v).at t = _
      rw [Tr.at_set, if_neg (fun e => ht (by rw [e, hd]))]
theorem Did.same {o : Oper} {s s' : DSt} {z : Rz} (h : Did P ib cf rf rb ops o s z s') (hz : z ≠ .heavy) : s'.a.df = s.a.df ∧ s'.a.up = s.a.up := by
  cases h with
  | skip _ hp => exact ⟨(put_at hp).2.1, (put_at hp).2.2.1⟩
  | pure _ _ hp => exact ⟨(put_at hp).2.1, (put_at hp).2.2.1⟩
  | read _ _ hp => exact ⟨(put_at hp).2.1, (put_at hp).2.2.1⟩
  | alloc _ _ hp => exact ⟨(put_at hp).2.1, (put_at hp).2.2.1⟩
  | store _ _ _ hp => exact ⟨(put_at hp).2.1, (put_at hp).2.2.1⟩
  | heavy => exact (hz rfl).elim
/-- What an operation that is no effect leaves of a block. -/
theorem Did.hp {o : Oper} {s s' : DSt} {z : Rz} (h : Did P ib cf rf rb ops o s z s') (hz : z ≠ .heavy) {b : Nat} (hb : b < s.n) (hst : z ≠ .store b) : s'.h.at b = s.h.at b := by
  cases h with
  | skip => rfl
  | pure => rfl
  | read => rfl
  | alloc _ _ hp => show (s.h.set s.n _).at b = _; rw [Tr.at_set, if_neg (by omega)]
  | store _ _ _ hp => rw [Tr.at_set, if_neg (fun e => hst (by rw [e]))]
  | heavy => exact (hz rfl).elim
/-- Where a block comes from. -/
theorem Did.from {o : Oper} {s s' : DSt} {z : Rz} (h : Did P ib cf rf rb ops o s z s') (hz : z ≠ .heavy) {b : Nat} {x : Bk} (hb : s'.h.at b = some x) : (∃ y, s.h.at b = some y) ∨ (b = s.n ∧ ∃ x', z = .alloc x') := by
  cases h with
  | skip => exact .inl ⟨_, hb⟩
  | pure => exact .inl ⟨_, hb⟩
  | read => exact .inl ⟨_, hb⟩
  | alloc _ _ hp =>
    rw [Tr.at_set] at hb
    split at hb
    · rename_i e; exact .inr ⟨e, _, rfl⟩
    · exact .inl ⟨_, hb⟩
  | store _ hv _ hp =>
    rw [Tr.at_set] at hb
    split at hb
    · rename_i e; rw [e]; exact .inl (storeOp_at hv)
    · exact .inl ⟨_, hb⟩
  | heavy => exact (hz rfl).elim
end
end Go.Proofs.YtoiojhmfndmflaaGreatDoor.Rex

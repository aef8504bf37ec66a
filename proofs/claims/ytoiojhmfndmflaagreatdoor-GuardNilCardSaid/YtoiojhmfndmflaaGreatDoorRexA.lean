/-
  Rex, part A: a trie of eight ways, keyed by paths; what is proved: reading behind writing, writes at two places commute.
-/
namespace Go.Proofs.YtoiojhmfndmflaaGreatDoor.Rex

inductive Pa where
  | e | d0 (p : Pa) | d1 (p : Pa) | d2 (p : Pa) | d3 (p : Pa) | d4 (p : Pa) | d5 (p : Pa) | d6 (p : Pa) | d7 (p : Pa)

inductive Tr (α : Type) where
  | lf
  | nd (v : Option α) (t0 t1 t2 t3 t4 t5 t6 t7 : Tr α)

variable {α : Type}

def Tr.get : Pa → Tr α → Option α
  | _, .lf => none
  | .e, .nd v _ _ _ _ _ _ _ _ => v
  | .d0 p, .nd _ t _ _ _ _ _ _ _ => Tr.get p t
  | .d1 p, .nd _ _ t _ _ _ _ _ _ => Tr.get p t
  | .d2 p, .nd _ _ _ t _ _ _ _ _ => Tr.get p t
  | .d3 p, .nd _ _ _ _ t _ _ _ _ => Tr.get p t
  | .d4 p, .nd _ _ _ _ _ t _ _ _ => Tr.get p t
  | .d5 p, .nd _ _ _ _ _ _ t _ _ => Tr.get p t
  | .d6 p, .nd _ _ _ _ _ _ _ t _ => Tr.get p t
  | .d7 p, .nd _ _ _ _ _ _ _ _ t => Tr.get p t

/-- What stands at a path becomes x (none: nothing). -/
def Tr.put (x : Option α) : Pa → Tr α → Tr α
  | .e, .lf => .nd x .lf .lf .lf .lf .lf .lf .lf .lf
  | .d0 p, .lf => .nd none (Tr.put x p .lf) .lf .lf .lf .lf .lf .lf .lf
  | .d1 p, .lf => .nd none .lf (Tr.put x p .lf) .lf .lf .lf .lf .lf .lf
  | .d2 p, .lf => .nd none .lf .lf (Tr.put x p .lf) .lf .lf .lf .lf .lf
  | .d3 p, .lf => .nd none .lf .lf .lf (Tr.put x p .lf) .lf .lf .lf .lf
  | .d4 p, .lf => .nd none .lf .lf .lf .lf (Tr.put x p .lf) .lf .lf .lf
  | .d5 p, .lf => .nd none .lf .lf .lf .lf .lf (Tr.put x p .lf) .lf .lf
  | .d6 p, .lf => .nd none .lf .lf .lf .lf .lf .lf (Tr.put x p .lf) .lf
  | .d7 p, .lf => .nd none .lf .lf .lf .lf .lf .lf .lf (Tr.put x p .lf)
  | .e, .nd _ a b c d e f g h => .nd x a b c d e f g h
  | .d0 p, .nd v a b c d e f g h => .nd v (Tr.put x p a) b c d e f g h
  | .d1 p, .nd v a b c d e f g h => .nd v a (Tr.put x p b) c d e f g h
  | .d2 p, .nd v a b c d e f g h => .nd v a b (Tr.put x p c) d e f g h
  | .d3 p, .nd v a b c d e f g h => .nd v a b c (Tr.put x p d) e f g h
  | .d4 p, .nd v a b c d e f g h => .nd v a b c d (Tr.put x p e) f g h
  | .d5 p, .nd v a b c d e f g h => .nd v a b c d e (Tr.put x p f) g h
  | .d6 p, .nd v a b c d e f g h => .nd v a b c d e f (Tr.put x p g) h
  | .d7 p, .nd v a b c d e f g h => .nd v a b c d e f g (Tr.put x p h)

theorem Tr.get_lf (p : Pa) : Tr.get p (Tr.lf : Tr α) = none := by cases p <;> rfl

theorem Tr.get_put_same (x : Option α) (p : Pa) : ∀ t : Tr α, Tr.get p (Tr.put x p t) = x := by
  induction p with
  | e => intro t; cases t <;> rfl
  | _ p ih => intro t; cases t <;> exact ih _

theorem Tr.get_put_other (x : Option α) (q : Pa) : ∀ (p : Pa) (t : Tr α), p ≠ q → Tr.get p (Tr.put x q t) = Tr.get p t := by
  induction q with
  | e =>
    intro p t h
    cases p with
    | e => exact absurd rfl h
    | _ p => cases t <;> simp [Tr.put, Tr.get]
  | _ q ih =>
    intro p t h
    cases p <;> first
      | (cases t <;> simp [Tr.put, Tr.get]; done)
      | (rename_i p
         have hne : p ≠ q := fun e => h (by rw [e])
         cases t with
         | lf => simpa [Tr.put, Tr.get] using ih p .lf hne
         | nd => simpa [Tr.put, Tr.get] using ih p _ hne)

theorem Tr.put_put (x y : Option α) (p : Pa) : ∀ t : Tr α, Tr.put x p (Tr.put y p t) = Tr.put x p t := by
  induction p with
  | e => intro t; cases t <;> rfl
  | _ p ih => intro t; cases t <;> simp [Tr.put, ih]

theorem Tr.put_comm (x y : Option α) (q : Pa) : ∀ (p : Pa) (t : Tr α), p ≠ q → Tr.put x p (Tr.put y q t) = Tr.put y q (Tr.put x p t) := by
  induction q with
  | e =>
    intro p t h
    cases p with
    | e => exact absurd rfl h
    | _ p => cases t <;> simp [Tr.put]
  | _ q ih =>
    intro p t h
    cases p <;> first
      | (cases t <;> simp [Tr.put]; done)
      | (rename_i p
         have hne : p ≠ q := fun e => h (by rw [e])
         cases t with
         | lf => simpa [Tr.put] using ih p .lf hne
         | nd => simpa [Tr.put] using ih p _ hne)

/-- A digit, ahead of a path. -/
def dig (d : Nat) (p : Pa) : Pa :=
  match d with
  | 0 => .d0 p | 1 => .d1 p | 2 => .d2 p | 3 => .d3 p | 4 => .d4 p | 5 => .d5 p | 6 => .d6 p | _ => .d7 p

/-- The path of a number (f: at least the number). -/
def paF : Nat → Nat → Pa
  | 0, _ => .e
  | f + 1, n => bif Nat.beq n 0 then .e else dig (Nat.mod (Nat.pred n) 8) (paF f (Nat.div (Nat.pred n) 8))

def pa (n : Nat) : Pa := paF n n

theorem dig_inj {a b : Nat} {p q : Pa} (ha : a < 8) (hb : b < 8) (h : dig a p = dig b q) : a = b ∧ p = q := by
  have ca : a = 0 ∨ a = 1 ∨ a = 2 ∨ a = 3 ∨ a = 4 ∨ a = 5 ∨ a = 6 ∨ a = 7 := by omega
  have cb : b = 0 ∨ b = 1 ∨ b = 2 ∨ b = 3 ∨ b = 4 ∨ b = 5 ∨ b = 6 ∨ b = 7 := by omega
  rcases ca with rfl | rfl | rfl | rfl | rfl | rfl | rfl | rfl <;> rcases cb with rfl | rfl | rfl | rfl | rfl | rfl | rfl | rfl <;> simp_all [dig]

theorem paF_inj : ∀ (f : Nat) (g m n : Nat), m ≤ f → n ≤ g → paF f m = paF g n → m = n := by
  have key : ∀ d p, dig d p ≠ .e := by
    intro d p; unfold dig; split <;> simp
  have succ : ∀ (f n : Nat), n ≠ 0 → paF (f + 1) n = dig ((n - 1) % 8) (paF f ((n - 1) / 8)) := by
    intro f n h
    have : Nat.beq n 0 = false := by cases n with | zero => exact absurd rfl h | succ n => rfl
    simp only [paF, this, cond_false]
    rfl
  intro f
  induction f with
  | zero =>
    intro g m n hm hn h
    have hm0 : m = 0 := by omega
    subst hm0
    cases g with
    | zero => omega
    | succ g =>
      by_cases hn0 : n = 0
      · exact hn0.symm
      · rw [succ g n hn0] at h; exact absurd h.symm (key _ _)
  | succ f ih =>
    intro g m n hm hn h
    by_cases hm0 : m = 0
    · subst hm0
      cases g with
      | zero => omega
      | succ g =>
        by_cases hn0 : n = 0
        · exact hn0.symm
        · rw [succ g n hn0] at h; exact absurd h.symm (key _ _)
    · rw [succ f m hm0] at h
      cases g with
      | zero => exact absurd h (key _ _)
      | succ g =>
        by_cases hn0 : n = 0
        · subst hn0; exact absurd h (key _ _)
        · rw [succ g n hn0] at h
          obtain ⟨h1, h2⟩ := dig_inj (Nat.mod_lt _ (by omega)) (Nat.mod_lt _ (by omega)) h
          have h3 := ih g ((m - 1) / 8) ((n - 1) / 8) (by omega) (by omega) h2
          omega

theorem pa_inj {m n : Nat} (h : pa m = pa n) : m = n := paF_inj m n m n (Nat.le_refl _) (Nat.le_refl _) h

/-- Reading and writing by number. -/
def Tr.at (t : Tr α) (n : Nat) : Option α := Tr.get (pa n) t
def Tr.set (t : Tr α) (n : Nat) (x : α) : Tr α := Tr.put (some x) (pa n) t
def Tr.del (t : Tr α) (n : Nat) : Tr α := Tr.put none (pa n) t

theorem Tr.at_lf (n : Nat) : (Tr.lf : Tr α).at n = none := Tr.get_lf _
theorem Tr.at_set (t : Tr α) (n m : Nat) (x : α) : (t.set n x).at m = if m = n then some x else t.at m := by
  by_cases h : m = n
  · subst h; rw [if_pos rfl]; exact Tr.get_put_same _ _ _
  · rw [if_neg h]; exact Tr.get_put_other _ _ _ _ (fun e => h (pa_inj e))
theorem Tr.at_set_same (t : Tr α) (n : Nat) (x : α) : (t.set n x).at n = some x := by rw [Tr.at_set, if_pos rfl]
theorem Tr.at_set_other (t : Tr α) {n m : Nat} (x : α) (h : m ≠ n) : (t.set n x).at m = t.at m := by rw [Tr.at_set, if_neg h]
theorem Tr.at_del (t : Tr α) (n m : Nat) : (t.del n).at m = if m = n then none else t.at m := by
  by_cases h : m = n
  · subst h; rw [if_pos rfl]; exact Tr.get_put_same _ _ _
  · rw [if_neg h]; exact Tr.get_put_other _ _ _ _ (fun e => h (pa_inj e))
theorem Tr.set_set (t : Tr α) (n : Nat) (x y : α) : (t.set n y).set n x = t.set n x := Tr.put_put _ _ _ _
theorem Tr.set_comm (t : Tr α) {n m : Nat} (x y : α) (h : n ≠ m) : (t.set m y).set n x = (t.set n x).set m y :=
  Tr.put_comm _ _ _ _ _ (fun e => h (pa_inj e))
end Go.Proofs.YtoiojhmfndmflaaGreatDoor.Rex

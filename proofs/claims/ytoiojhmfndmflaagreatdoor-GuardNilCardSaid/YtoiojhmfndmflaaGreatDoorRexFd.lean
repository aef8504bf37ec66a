/-
  Rex, part Fd: calls that have been run before: at the same arguments, in a memory that holds the same blocks, they come to the same.
-/
import Derived.Test.YtoiojhmfndmflaaGreatDoorRexZd
namespace Go.Proofs.YtoiojhmfndmflaaGreatDoor.Rex
open Go

/-! ## The names in a value -/

mutual
def AV.nin (p : Nat → Bool) : AV → Bool
  | .bool _ | .int _ _ | .str _ | .nptr | .nsl | .se | .nmap | .nfn | .nifc => true
  | .ptr b _ _ _ | .sl b _ _ _ _ _ _ | .map b | .yfn b | .it b => p b
  | .fn _ x y => AV.nins p x && AV.nins p y
  | .ifc _ v => AV.nin p v
  | .agg l | .tup l => AV.nins p l
def AV.nins (p : Nat → Bool) : List AV → Bool
  | [] => true
  | v :: l => AV.nin p v && AV.nins p l
end

/-- A naming, for some names alone. -/
def keep (σ : Sg) (p : Nat → Bool) : Sg := fun b g => if p b then σ b g else none
theorem keep_in {σ : Sg} {p : Nat → Bool} {b : Nat} (h : p b = true) (g : Nat) : keep σ p b g = σ b g := by simp [keep, h]
theorem keep_some {σ : Sg} {p : Nat → Bool} {b g : Nat} {r : Nat × Nat × Nat} (h : keep σ p b g = some r) : p b = true ∧ σ b g = some r := by
  unfold keep at h
  split at h
  · rename_i hp; exact ⟨hp, h⟩
  · cases h
theorem keep_out {σ : Sg} {p : Nat → Bool} {b : Nat} (h : p b = false) (g : Nat) : keep σ p b g = none := by simp [keep, h]

mutual
theorem VR.keep {σ : Sg} {p : Nat → Bool} {v : AV} {v' : Value} : VR σ v v' → v.nin p = true → VR (Rex.keep σ p) v v'
  | .bool b, _ => .bool b
  | .int k n, _ => .int k n
  | .str s, _ => .str s
  | .nptr, _ => .nptr
  | .ptr h he hN, hp => .ptr ((keep_in (by simpa only [AV.nin] using hp) _).trans h) he hN
  | .nsl, _ => .nsl
  | .sl h he hl hk hn hN hc hx, hp => .sl ((keep_in (by simpa only [AV.nin] using hp) _).trans h) he hl hk hn hN hc hx
  | .se, _ => .se
  | .nmap, _ => .nmap
  | .map h, hp => .map ((keep_in (by simpa only [AV.nin] using hp) _).trans h)
  | .fn h1 h2, hp => by
    simp only [AV.nin, Bool.and_eq_true] at hp
    exact .fn (h1.keep hp.1) (h2.keep hp.2)
  | .yfn h, hp => .yfn ((keep_in (by simpa only [AV.nin] using hp) _).trans h)
  | .nfn, _ => .nfn
  | .ifc h, hp => .ifc (h.keep (by simpa only [AV.nin] using hp))
  | .nifc, _ => .nifc
  | .agg h h1, hp => .agg (h.keep (by simpa only [AV.nin] using hp)) h1
  | .tup h, hp => .tup (h.keep (by simpa only [AV.nin] using hp))
  | .it h, hp => .it ((keep_in (by simpa only [AV.nin] using hp) _).trans h)
theorem VRs.keep {σ : Sg} {p : Nat → Bool} {l : List AV} {l' : List Value} : VRs σ l l' → AV.nins p l = true → VRs (Rex.keep σ p) l l'
  | .nil, _ => .nil
  | .cons h t, hp => by
    simp only [AV.nins, Bool.and_eq_true] at hp
    exact .cons (h.keep hp.1) (t.keep hp.2)
end

theorem nins_take {p : Nat → Bool} : ∀ (l : List AV) (n : Nat), AV.nins p l = true → AV.nins p (l.take n) = true
  | [], n, _ => by simp [AV.nins]
  | v :: l, 0, _ => by simp [AV.nins]
  | v :: l, n + 1, h => by
    simp only [AV.nins, Bool.and_eq_true, List.take_succ_cons] at h ⊢
    exact ⟨h.1, nins_take l n h.2⟩

def esIn (p : Nat → Bool) : List (AV × AV × Nat) → Bool
  | [] => true
  | e :: l => AV.nin p e.1 && AV.nin p e.2.1 && esIn p l

def Blk.nin (p : Nat → Bool) : Blk → Bool
  | .cells cs _ _ _ _ => AV.nins p cs
  | .map es _ => esIn p es
  | .siter _ _ => true
  | .miter m _ _ _ => p m
  | .dfr _ => true
  | .loop _ => false

theorem ERs.keep {σ : Sg} {p : Nat → Bool} {es : List (AV × AV × Nat)} {es' : List MapEntry} (h : ERs σ es es') (hp : esIn p es = true) : ERs (Rex.keep σ p) es es' := by
  induction h with
  | nil => exact .nil
  | cons hk hv _ ih =>
    simp only [esIn, Bool.and_eq_true] at hp
    exact .cons (hk.keep hp.1.1) (hv.keep hp.1.2) (ih hp.2)

theorem ObR.restrict {σ : Sg} {p : Nat → Bool} {b : Nat} {o : Blk} {w : World} (h : ObR σ b o w) (hb : p b = true) (ho : o.nin p = true) : ObR (Rex.keep σ p) b o w := by
  have hk : ∀ g, Rex.keep σ p b g = σ b g := fun g => keep_in hb g
  cases o with
  | cells cs len gen wgen pl =>
    obtain ⟨h1, h2, h3, h4, ⟨c, N, h5⟩, h6, h7, h8⟩ := h
    refine ⟨h1, h2, h3, h4, ⟨c, N, (hk _).trans h5⟩, fun g c n N hg hg' e => ?_, fun g c n N hg e => ?_, fun g hg => (hk g).trans (h8 g hg)⟩
    · rw [hk] at e
      obtain ⟨h9, cells, el, lo, hi, q1, q2, q3, q4, q5⟩ := h6 g c n N hg hg' e
      exact ⟨h9, cells, el, lo, hi, q1, q2, q3, q4.keep (nins_take _ _ (by simpa only [Blk.nin] using ho)), q5⟩
    · rw [hk] at e
      exact h7 g c n N hg e
  | map es clock =>
    obtain ⟨h0, c, es', h1, h2, h3⟩ := h
    exact ⟨fun g hg => (hk g).trans (h0 g hg), c, es', (hk 0).trans h1, h2, h3.keep (by simpa only [Blk.nin] using ho)⟩
  | siter l pos =>
    obtain ⟨h0, c, s, h1, h2, h3⟩ := h
    exact ⟨fun g hg => (hk g).trans (h0 g hg), c, s, (hk 0).trans h1, h2, h3⟩
  | miter m since seen st =>
    obtain ⟨h0, c, m', h1, h2, h3⟩ := h
    exact ⟨fun g hg => (hk g).trans (h0 g hg), c, m', (hk 0).trans h1, h2, (keep_in (by simpa only [Blk.nin] using ho) 0).trans h3⟩
  | dfr o =>
    obtain ⟨h0, c, h1, h2⟩ := h
    exact ⟨fun g hg => (hk g).trans (h0 g hg), c, (hk 0).trans h1, h2⟩
  | loop l => cases ho

/-! ## Are two blocks the same? -/

def esEqb : List (AV × AV × Nat) → List (AV × AV × Nat) → Bool
  | [], [] => true
  | a :: l, b :: m => AV.eqb a.1 b.1 && AV.eqb a.2.1 b.2.1 && Nat.beq a.2.2 b.2.2 && esEqb l m
  | _, _ => false
theorem esEqb_eq : ∀ {l m : List (AV × AV × Nat)}, esEqb l m = true → l = m
  | [], [], _ => rfl
  | [], _ :: _, h => by cases h
  | _ :: _, [], h => by cases h
  | (a, b, c) :: l, (a', b', c') :: m, h => by
    simp only [esEqb, Bool.and_eq_true, Nat.beq_eq] at h
    obtain ⟨⟨⟨h1, h2⟩, h3⟩, h4⟩ := h
    rw [AV.eqb_eq h1, AV.eqb_eq h2, h3, esEqb_eq h4]

def Blk.eqb : Blk → Blk → Bool
  | .cells cs a b c d, .cells cs' a' b' c' d' => Nat.beq a a' && Nat.beq b b' && Nat.beq c c' && Nat.beq d d' && AV.eqbs cs cs'
  | .map es c, .map es' c' => Nat.beq c c' && esEqb es es'
  | .siter l p, .siter l' p' => Nat.beq p p' && (l == l')
  | .miter m s l t, .miter m' s' l' t' => Nat.beq m m' && Nat.beq s s' && Nat.beq t t' && (l == l')
  | .dfr b, .dfr b' => b == b'
  | _, _ => false
theorem Blk.eqb_eq {x y : Blk} (h : Blk.eqb x y = true) : x = y := by
  cases x <;> cases y <;> first
    | (simp only [Blk.eqb, Bool.and_eq_true, Nat.beq_eq, beq_iff_eq] at h
       first
       | (obtain ⟨⟨⟨⟨h1, h2⟩, h3⟩, h4⟩, h5⟩ := h; rw [h1, h2, h3, h4, AV.eqbs_eq h5])
       | (obtain ⟨⟨⟨h1, h2⟩, h3⟩, h4⟩ := h; rw [h1, h2, h3, h4])
       | (obtain ⟨h1, h2⟩ := h; rw [h1, esEqb_eq h2])
       | (obtain ⟨h1, h2⟩ := h; rw [h1, h2])
       | rw [h])
    | cases h

def bkIs (h : Hp) (p : Nat × Bk) : Bool :=
  match h.at p.1 with
  | none => false
  | some y => Nat.beq y.v p.2.v && Blk.eqb y.o p.2.o
theorem bkIs_at {h : Hp} {p : Nat × Bk} (e : bkIs h p = true) : h.at p.1 = some p.2 := by
  unfold bkIs at e
  split at e
  · cases e
  · rename_i y hy
    simp only [Bool.and_eq_true, Nat.beq_eq] at e
    rw [hy]
    obtain ⟨b, v, o⟩ := p
    obtain ⟨v', o'⟩ := y
    simp only at e
    rw [e.1, Blk.eqb_eq e.2]

/-! ## A memory over which blocks are laid -/

def over (h : Hp) : List (Nat × Bk) → Hp
  | [] => h
  | p :: l => over (h.set p.1 p.2) l

def dom (l : List (Nat × Bk)) (b : Nat) : Bool := l.any fun p => Nat.beq p.1 b

theorem dom_of {l : List (Nat × Bk)} {b : Nat} {x : Bk} (h : (b, x) ∈ l) : dom l b = true := by
  unfold dom
  rw [List.any_eq_true]
  exact ⟨_, h, Nat.beq_refl b⟩
theorem of_dom {l : List (Nat × Bk)} {b : Nat} (h : dom l b = true) : ∃ x, (b, x) ∈ l := by
  unfold dom at h
  rw [List.any_eq_true] at h
  obtain ⟨⟨b', x⟩, h1, h2⟩ := h
  rw [Nat.beq_eq] at h2
  subst h2
  exact ⟨x, h1⟩

theorem over_at : ∀ (l : List (Nat × Bk)) (h : Hp) (b : Nat) (x : Bk), (over h l).at b = some x → (b, x) ∈ l ∨ (dom l b = false ∧ h.at b = some x)
  | [], h, b, x, e => .inr ⟨rfl, e⟩
  | (c, y) :: l, h, b, x, e => by
    rcases over_at l (h.set c y) b x e with h1 | ⟨h1, h2⟩
    · exact .inl (List.mem_cons_of_mem _ h1)
    · rw [Tr.at_set] at h2
      split at h2
      · rename_i hbc
        cases h2
        subst hbc
        exact .inl (List.mem_cons_self ..)
      · rename_i hne
        refine .inr ⟨?_, h2⟩
        unfold dom at h1 ⊢
        rw [List.any_cons, h1]
        simp only [Bool.or_false]
        cases hb : Nat.beq c b with
        | false => rfl
        | true => rw [Nat.beq_eq] at hb; exact absurd hb.symm hne

/-! ## A call that has been run -/

structure Orc where
  f : FuncId
  args : List AV
  n : Nat
  pre : List (Nat × Bk)
  v : AV
  post : List (Nat × Bk)
  n' : Nat

/-- What it names is told. -/
def Orc.wf (o : Orc) : Bool :=
  AV.nins (dom o.pre) o.args && o.pre.all (fun p => p.2.o.nin (dom o.pre)) && o.pre.all (fun p => dom o.post p.1) && o.post.all (fun p => dom o.pre p.1 || Nat.ble o.n p.1)

/-- The run came to what is told. -/
def Orc.came (o : Orc) : RE → Bool
  | .ok (.retd v) none h n => AV.eqb v o.v && Nat.beq n o.n' && o.post.all (bkIs h)
  | _ => false

def Orc.hit (o : Orc) (f : FuncId) (args : List AV) (h : Hp) (n : Nat) : Bool :=
  Nat.beq o.f f && Nat.beq o.n n && AV.eqbs o.args args && o.pre.all (bkIs h)

def Orc.Ok (P : Program) (o : Orc) : Prop :=
  o.wf = true ∧ ∃ cf, CallOk P cf ∧ o.came (cf o.f o.args none (over .lf o.pre) o.n) = true

def orc1 (o : Orc) (cf : CallF) (f : FuncId) (args : List AV) (up : Option AMd) (h : Hp) (n : Nat) : RE :=
  match up with
  | some m => cf f args (some m) h n
  | none => bif o.hit f args h n then .ok (.retd o.v) none (over h o.post) o.n' else cf f args none h n

theorem orc_ok {P : Program} {o : Orc} (ho : o.Ok P) {cf : CallF} (hcf : CallOk P cf) : CallOk P (orc1 o cf) := by
  intro f args up h n e up' h' n' hre σ w args' cs0 cs hs ha hu
  cases up with
  | some m => exact hcf f args (some m) h n e up' h' n' hre σ w args' cs0 cs hs ha hu
  | none =>
    simp only [orc1, Bool.cond_eq_ite] at hre
    split at hre
    case isFalse => exact hcf f args none h n e up' h' n' hre σ w args' cs0 cs hs ha hu
    case isTrue hhit =>
      obtain ⟨hwf, cf0, hcf0, hcame⟩ := ho
      simp only [Orc.hit, Bool.and_eq_true, Nat.beq_eq, List.all_eq_true] at hhit
      obtain ⟨⟨⟨e1, e2⟩, e3⟩, hpre⟩ := hhit
      have e3 := AV.eqbs_eq e3
      subst e1 e2 e3
      simp only [Orc.wf, Bool.and_eq_true, List.all_eq_true, Bool.or_eq_true] at hwf
      obtain ⟨⟨⟨w1, w2⟩, w3⟩, w4⟩ := hwf
      cases hre
      generalize hr : cf0 o.f o.args none (over .lf o.pre) o.n = re at hcame
      cases re with
      | no => cases hcame
      | ok e1 up1 h1 n1 =>
        cases e1 with
        | pand ch => cases hcame
        | retd v1 =>
          cases up1 with
          | some m => cases hcame
          | none =>
            simp only [Orc.came, Bool.and_eq_true, Nat.beq_eq, List.all_eq_true] at hcame
            obtain ⟨⟨e4, e5⟩, hpost⟩ := hcame
            have e4 := AV.eqb_eq e4
            subst e4 e5
            have hpre' : ∀ b x, (b, x) ∈ o.pre → h.at b = some x := fun b x hm => bkIs_at (hpre _ hm)
            have hpost' : ∀ b x, (b, x) ∈ o.post → h1.at b = some x := fun b x hm => bkIs_at (hpost _ hm)
            have hlt : ∀ b g r, σ b g = some r → b < o.n := fun b g r e => by
              rcases Nat.lt_or_ge b o.n with hb | hb
              · exact hb
              · rw [hs.nm b hb g] at e; cases e
            have hdlt : ∀ b, dom o.pre b = true → b < o.n := fun b hb => by
              obtain ⟨x, hx⟩ := of_dom hb
              obtain ⟨g, r, e⟩ := (hs.blk b x (hpre' b x hx)).mapped
              exact hlt b g r e
            let σ0 := Rex.keep σ (dom o.pre)
            have hs0 : SR σ0 (over .lf o.pre) o.n w := by
              refine ⟨fun b x hx => ?_, fun b g r b' g' r' e e' => ?_, fun b g r e => ?_, fun b hb g => ?_⟩
              · rcases over_at _ _ _ _ hx with hm | ⟨_, hm⟩
                · exact (hs.blk b x (hpre' b x hm)).restrict (dom_of hm) (w2 _ hm)
                · rw [Tr.at_lf] at hm; cases hm
              · exact hs.inj _ _ _ _ _ _ (keep_some e).2 (keep_some e').2
              · exact hs.lt b g r (keep_some e).2
              · cases hp : dom o.pre b with
                | true => exact (keep_in hp g).trans (hs.nm b hb g)
                | false => exact keep_out hp g
            obtain ⟨hent, σ1, w', cs', fr, F, S1, hn, hu', hup, hst, hlv⟩ := hcf0 o.f o.args none _ o.n _ _ _ _ hr σ0 w args' cs0 cs hs0 (ha.keep w1) hu
            refine ⟨hent, fun b g => if dom o.pre b = true ∨ o.n ≤ b then σ1 b g else σ b g, w', cs', fr, ?_, ?_, hn, ?_, rfl, hst, ?_⟩
            all_goals
              have hin : ∀ b g, (dom o.pre b = true ∨ o.n ≤ b) → (if dom o.pre b = true ∨ o.n ≤ b then σ1 b g else σ b g) = σ1 b g := fun b g hb => if_pos hb
              have hout : ∀ b g, ¬ (dom o.pre b = true ∨ o.n ≤ b) → (if dom o.pre b = true ∨ o.n ≤ b then σ1 b g else σ b g) = σ b g := fun b g hb => if_neg hb
              have h1in : ∀ b g r, σ1 b g = some r → (dom o.pre b = true ∨ o.n ≤ b) := fun b g r e => by
                cases hp : dom o.pre b with
                | true => exact .inl rfl
                | false =>
                  rcases Nat.lt_or_ge b o.n with hb | hb
                  · rw [F.und b hb (fun g => keep_out hp g) g] at e; cases e
                  · exact .inr hb
              have hle1 : Sg.le σ1 (fun b g => if dom o.pre b = true ∨ o.n ≤ b then σ1 b g else σ b g) := fun b g r e => (hin b g (h1in b g r e)).trans e
              have hle : Sg.le σ (fun b g => if dom o.pre b = true ∨ o.n ≤ b then σ1 b g else σ b g) := fun b g r e => by
                by_cases hb : dom o.pre b = true ∨ o.n ≤ b
                · refine (hin b g hb).trans (F.le b g r ?_)
                  rcases hb with hb | hb
                  · exact (keep_in hb g).trans e
                  · have := hlt b g r e; omega
                · exact (hout b g hb).trans e
            · -- the frame
              refine ⟨hle, F.size, fun c hc hno => F.old c hc fun b g r e => hno b g r (keep_some e).2, fun b g r e => ?_, fun b hb hno g => ?_, F.tape, F.os, F.out⟩
              · by_cases hb : dom o.pre b = true ∨ o.n ≤ b
                · rw [hin b g hb] at e
                  rcases F.new b g r e with h2 | ⟨g0, r0, e0, hr0⟩
                  · exact .inl h2
                  · exact .inr ⟨g0, r0, (keep_some e0).2, hr0⟩
                · rw [hout b g hb] at e
                  exact .inr ⟨g, r, e, rfl⟩
              · by_cases hd : dom o.pre b = true ∨ o.n ≤ b
                · rw [hin b g hd]
                  refine F.und b hb (fun g => ?_) g
                  rcases hd with hd | hd
                  · exact (keep_in hd g).trans (hno g)
                  · omega
                · rw [hout b g hd]; exact hno g
            · -- memory
              refine ⟨fun b x hx => ?_, fun b g r b' g' r' e e' hrr => ?_, fun b g r e => ?_, fun b hb g => ?_⟩
              · rcases over_at _ _ _ _ hx with hm | ⟨hm, hx⟩
                · have hd : dom o.pre b = true ∨ o.n ≤ b := by
                    rcases w4 _ hm with h2 | h2
                    · exact .inl h2
                    · exact .inr (Nat.le_of_ble_eq_true h2)
                  exact (S1.blk b x (hpost' b x hm)).keep hle1 (fun g => hin b g hd) fun _ _ _ => rfl
                · have hd : ¬ (dom o.pre b = true ∨ o.n ≤ b) := by
                    rintro (h2 | h2)
                    · obtain ⟨y, hy⟩ := of_dom h2
                      rw [w3 _ hy] at hm; cases hm
                    · obtain ⟨g, r, e⟩ := (hs.blk b x hx).mapped
                      have := hlt b g r e
                      omega
                  refine (hs.blk b x hx).keep hle (fun g => hout b g hd) fun g r e => F.old _ (hs.lt b g r e) fun b' g' r' e' hrr => hd ?_
                  have h3 := keep_some e'
                  rw [hs.inj b g r b' g' r' e h3.2 hrr.symm]
                  exact .inl h3.1
              · have mix : ∀ b g r b' g' r', σ1 b g = some r → σ b' g' = some r' → ¬ (dom o.pre b' = true ∨ o.n ≤ b') → r.1 = r'.1 → b = b' := fun b g r b' g' r' e e' hd' hrr => by
                  rcases F.new b g r e with h2 | ⟨g0, r0, e0, hr0⟩
                  · have := hs.lt b' g' r' e'
                    omega
                  · exact hs.inj _ _ _ _ _ _ (keep_some e0).2 e' (hr0.trans hrr)
                by_cases hd : dom o.pre b = true ∨ o.n ≤ b <;> by_cases hd' : dom o.pre b' = true ∨ o.n ≤ b'
                · rw [if_pos hd] at e; rw [if_pos hd'] at e'
                  exact S1.inj _ _ _ _ _ _ e e' hrr
                · rw [if_pos hd] at e; rw [if_neg hd'] at e'
                  exact mix _ _ _ _ _ _ e e' hd' hrr
                · rw [if_neg hd] at e; rw [if_pos hd'] at e'
                  exact (mix _ _ _ _ _ _ e' e hd hrr.symm).symm
                · rw [if_neg hd] at e; rw [if_neg hd'] at e'
                  exact hs.inj _ _ _ _ _ _ e e' hrr
              · by_cases hd : dom o.pre b = true ∨ o.n ≤ b
                · rw [if_pos hd] at e; exact S1.lt b g r e
                · rw [if_neg hd] at e; exact Nat.lt_of_lt_of_le (hs.lt b g r e) F.size
              · have hd : dom o.pre b = true ∨ o.n ≤ b := .inr (Nat.le_trans hn hb)
                exact (hin b g hd).trans (S1.nm b hb g)
            · exact hu'.mono hle1
            · obtain ⟨q1, q2, q3, fn, v', q4, q5, q6⟩ := hlv
              exact ⟨q1, q2, q3, fn, v', q4, q5, q6.mono hle1⟩

def orcX : List Orc → CallF → CallF
  | [], cf => cf
  | o :: l, cf => orc1 o (orcX l cf)

theorem orcs_ok {P : Program} {cf : CallF} (hcf : CallOk P cf) : ∀ {l : List Orc}, (∀ o ∈ l, Orc.Ok P o) → CallOk P (orcX l cf)
  | [], _ => hcf
  | o :: l, h => orc_ok (h o (List.mem_cons_self ..)) (orcs_ok hcf fun o ho => h o (List.mem_cons_of_mem _ ho))

/-- The executor, with calls that have been run before. -/
def callO (P : Program) (ib : Nat) (dx : CallF → RndF → Bool → List Oper → Ac → Hp → Nat → RC) (os : List Orc) (K : Nat) : Nat → CallF
  | 0 => fun _ _ _ _ _ => .no
  | d + 1 => bodyX P (orcX os (callO P ib dx os K d)) (codeX P ib (orcX os (callO P ib dx os K d)) (dx (orcX os (callO P ib dx os K d))) K)

theorem runO_ok {P : Program} {ib : Nat} (hm : P.follows .mixedOrders = true) (hib : IbOk P ib) {os : List Orc} (ho : ∀ o ∈ os, Orc.Ok P o) (K : Nat) :
    ∀ d, CallOk P (callO P ib (drawX P ib) os K d)
  | 0 => by intro f args up h n e up' h' n' hre; cases hre
  | d + 1 => by
    have ih := orcs_ok (runO_ok hm hib ho K d) ho
    exact body_ok ih (code_ok hib ih (draw_ok hm hib ih) K)

/-- The function that is called is the one that leaves. -/
theorem runO_fn {P : Program} {ib : Nat} (hm : P.follows .mixedOrders = true) (hib : IbOk P ib) {os : List Orc} (ho : ∀ o ∈ os, Orc.Ok P o) (K d : Nat) (f : FuncId) (args : List AV) (up : Option AMd) (h : Hp) (n : Nat) (e : AEnd) (up' : Option AMd) (h' : Hp) (n' : Nat)
    (hre : callO P ib (drawX P ib) os K (d + 1) f args up h n = .ok e up' h' n') (σ : Sg) (w : World) (args' : List Value) (cs0 cs : List Frame) (hs : SR σ h n w) (ha : VRs σ args args') (hu : UpC σ up cs0 cs) :
    (∀ as W, (callFunc f as).run P W = .ok (.enter f as) W) ∧
    ∃ σ' w' cs' fr, Fr n σ w σ' w' ∧ SR σ' h' n' w' ∧ n ≤ n' ∧ UpC σ' up' cs0 cs' ∧ up'.isSome = up.isSome ∧
      Steps P (lone (Frame.enter P f ⟨args'⟩ (kdOf up)) cs w) (lone fr cs' w') ∧ Lv P σ' fr w' (kdOf up) e ∧ fr.fn = f := by
  have ih := orcs_ok (runO_ok hm hib ho K d) ho
  exact body_fn ih (code_ok hib ih (draw_ok hm hib ih) K) f args up h n e up' h' n' hre σ w args' cs0 cs hs ha hu

/-- A call that is run, with calls that have been run before. -/
theorem Orc.ok_of {P : Program} {ib : Nat} (hm : P.follows .mixedOrders = true) (hib : IbOk P ib) {os : List Orc} (ho : ∀ o ∈ os, Orc.Ok P o) {K d : Nat} {o : Orc}
    (h1 : o.wf = true) (h2 : o.came (callO P ib (drawX P ib) os K d o.f o.args none (over .lf o.pre) o.n) = true) : o.Ok P :=
  ⟨h1, _, runO_ok hm hib ho K d, h2⟩
end Go.Proofs.YtoiojhmfndmflaaGreatDoor.Rex

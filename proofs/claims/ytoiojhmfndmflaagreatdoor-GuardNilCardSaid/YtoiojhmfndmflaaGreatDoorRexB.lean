/-
  Rex, part B: what an executor knows of a value, and when a value is what it knows.
-/
import GoSem.Step
import Derived.Laws.Sem
import Derived.Test.YtoiojhmfndmflaaGreatDoorRexA
namespace Go.Proofs.YtoiojhmfndmflaaGreatDoor.Rex
open Go

/-- A value, as the executor knows it: addresses are names of its own (block, generation, place, extent). -/
inductive AV where
  | bool (b : Bool)
  | int (k : IntKind) (n : Int)
  | str (l : List Nat)
  | nptr
  | ptr (b g off ext : Nat)
  | nsl
  | sl (b g off len sz k : Nat) (ex : Bool)
  | se
  | nmap
  | map (b : Nat)
  | fn (f : Fn) (first cap : List AV)
  | yfn (b : Nat)
  | nfn
  | ifc (t : TypeId) (v : AV)
  | nifc
  | agg (l : List AV)
  | tup (l : List AV)
  | it (b : Nat)
  deriving Inhabited

/-- One cell's value (no struct, no tuple). -/
def AV.one : AV → Bool
  | .agg _ | .tup _ => false
  | _ => true

/-- Which block of memory a name (block, generation) is; how many of its cells are known; how many it has. -/
abbrev Sg := Nat → Nat → Option (Nat × Nat × Nat)

def bys (s : ByteArray) : List Nat := s.data.toList.map (·.toNat)

mutual
inductive VR (σ : Sg) : AV → Value → Prop where
  | bool (b : Bool) : VR σ (.bool b) (.bool b)
  | int (k : IntKind) (n : Int) : VR σ (.int k n) (.int k n)
  | str (s : ByteArray) : VR σ (.str (bys s)) (.string s)
  | nptr : VR σ .nptr (.pointer none)
  | ptr {b g off ext c n N : Nat} (h : σ b g = some (c, n, N)) (he : off + ext ≤ n) (hN : n ≤ N) : VR σ (.ptr b g off ext) (.pointer (some ⟨c, off, none⟩))
  | nsl : VR σ .nsl (.slice none 0 0)
  | sl {b g off len sz c n N k cap' : Nat} {ex : Bool} (h : σ b g = some (c, n, N)) (he : off + k * sz ≤ n) (hl : len ≤ k) (hk : k ≤ cap') (hn : n ≤ N) (hN : off + cap' * sz ≤ N)
      (hc : ex = true → cap' = k) (hx : ex = false → off + cap' * sz = N) : VR σ (.sl b g off len sz k ex) (.slice (some ⟨c, off, none⟩) len cap')
  | se {a : Addr} {cap' : Nat} : VR σ .se (.slice (some a) 0 cap')
  | nmap : VR σ .nmap (.map none)
  | map {b c : Nat} (h : σ b 0 = some (c, 0, 0)) : VR σ (.map b) (.map (some c))
  | fn {f : Fn} {first cap : List AV} {first' cap' : List Value} (h1 : VRs σ first first') (h2 : VRs σ cap cap') : VR σ (.fn f first cap) (.func f ⟨first'⟩ ⟨cap'⟩)
  | yfn {b c : Nat} (h : σ b 0 = some (c, 0, 0)) : VR σ (.yfn b) (.func (.yield c) #[] #[])
  | nfn : VR σ .nfn .nilFunc
  | ifc {t : TypeId} {v : AV} {v' : Value} (h : VR σ v v') : VR σ (.ifc t v) (.iface t v')
  | nifc : VR σ .nifc .nilIface
  | agg {l : List AV} {l' : List Value} (h : VRs σ l l') (h1 : ∀ v ∈ l, v.one = true) : VR σ (.agg l) (.agg ⟨l'⟩)
  | tup {l : List AV} {l' : List Value} (h : VRs σ l l') : VR σ (.tup l) (.tuple ⟨l'⟩)
  | it {b c : Nat} (h : σ b 0 = some (c, 0, 0)) : VR σ (.it b) (.pointer (some ⟨c, 0, none⟩))
inductive VRs (σ : Sg) : List AV → List Value → Prop where
  | nil : VRs σ [] []
  | cons {v : AV} {v' : Value} {l : List AV} {l' : List Value} (h : VR σ v v') (t : VRs σ l l') : VRs σ (v :: l) (v' :: l')
end

def Sg.le (σ σ' : Sg) : Prop := ∀ b g r, σ b g = some r → σ' b g = some r
theorem Sg.le_refl (σ : Sg) : Sg.le σ σ := fun _ _ _ h => h
theorem Sg.le_trans {σ σ' σ'' : Sg} (h : Sg.le σ σ') (h' : Sg.le σ' σ'') : Sg.le σ σ'' := fun b g r e => h' b g r (h b g r e)

mutual
theorem VR.mono {σ σ' : Sg} (hs : Sg.le σ σ') {v : AV} {v' : Value} : VR σ v v' → VR σ' v v'
  | .bool b => .bool b
  | .int k n => .int k n
  | .str s => .str s
  | .nptr => .nptr
  | .ptr h he hN => .ptr (hs _ _ _ h) he hN
  | .nsl => .nsl
  | .sl h he hl hk hn hN hc hx => .sl (hs _ _ _ h) he hl hk hn hN hc hx
  | .se => .se
  | .nmap => .nmap
  | .map h => .map (hs _ _ _ h)
  | .fn h1 h2 => .fn (h1.mono hs) (h2.mono hs)
  | .yfn h => .yfn (hs _ _ _ h)
  | .nfn => .nfn
  | .ifc h => .ifc (h.mono hs)
  | .nifc => .nifc
  | .agg h h1 => .agg (h.mono hs) h1
  | .tup h => .tup (h.mono hs)
  | .it h => .it (hs _ _ _ h)
theorem VRs.mono {σ σ' : Sg} (hs : Sg.le σ σ') {l : List AV} {l' : List Value} : VRs σ l l' → VRs σ' l l'
  | .nil => .nil
  | .cons h t => .cons (h.mono hs) (t.mono hs)
end

variable {σ : Sg}

theorem VRs.length {l : List AV} : ∀ {l' : List Value}, VRs σ l l' → l.length = l'.length := by
  induction l with
  | nil => intro l' h; cases h; rfl
  | cons v l ih => intro l' h; cases h with | cons _ t => simp [ih t]
theorem VRs.append {l m : List AV} : ∀ {l' m' : List Value}, VRs σ l l' → VRs σ m m' → VRs σ (l ++ m) (l' ++ m') := by
  induction l with
  | nil => intro l' m' h hm; cases h; exact hm
  | cons v l ih => intro l' m' h hm; cases h with | cons h t => exact .cons h (ih t hm)
theorem VRs.take {l : List AV} (n : Nat) : ∀ {l' : List Value}, VRs σ l l' → VRs σ (l.take n) (l'.take n) := by
  induction l generalizing n with
  | nil => intro l' h; cases h; simp; exact .nil
  | cons v l ih =>
    intro l' h
    cases h with
    | cons h t => cases n with
      | zero => exact .nil
      | succ n => exact .cons h (ih n t)
theorem VRs.drop {l : List AV} (n : Nat) : ∀ {l' : List Value}, VRs σ l l' → VRs σ (l.drop n) (l'.drop n) := by
  induction l generalizing n with
  | nil => intro l' h; cases h; simp; exact .nil
  | cons v l ih =>
    intro l' h
    cases h with
    | cons h t => cases n with
      | zero => exact .cons h t
      | succ n => exact ih n t
theorem VRs.get {l : List AV} : ∀ {l' : List Value} {n : Nat} {v : AV}, VRs σ l l' → l[n]? = some v → ∃ v', l'[n]? = some v' ∧ VR σ v v' := by
  induction l with
  | nil => intro l' n v _ e; simp at e
  | cons u l ih =>
    intro l' n v h e
    cases h with
    | cons h t => cases n with
      | zero => simp at e; subst e; exact ⟨_, rfl, h⟩
      | succ n => simp at e; obtain ⟨v', e', h'⟩ := ih t e; exact ⟨v', by simpa using e', h'⟩
theorem VRs.get' {l : List AV} : ∀ {l' : List Value} {n : Nat} {v' : Value}, VRs σ l l' → l'[n]? = some v' → ∃ v, l[n]? = some v ∧ VR σ v v' := by
  induction l with
  | nil => intro l' n v h e; cases h; simp at e
  | cons u l ih =>
    intro l' n v h e
    cases h with
    | cons h t => cases n with
      | zero => simp at e; subst e; exact ⟨_, rfl, h⟩
      | succ n => simp at e; obtain ⟨v', e', h'⟩ := ih t e; exact ⟨v', by simpa using e', h'⟩
theorem VRs.set {l : List AV} {v : AV} {v' : Value} (hv : VR σ v v') : ∀ {l' : List Value} (n : Nat), VRs σ l l' → VRs σ (l.set n v) (l'.set n v') := by
  induction l with
  | nil => intro l' n h; cases h; exact .nil
  | cons u l ih =>
    intro l' n h
    cases h with
    | cons h t => cases n with
      | zero => exact .cons hv t
      | succ n => exact .cons h (ih n t)
theorem VRs.rep {v : AV} {v' : Value} (hv : VR σ v v') : ∀ n, VRs σ (List.replicate n v) (List.replicate n v')
  | 0 => .nil
  | n + 1 => .cons hv (VRs.rep hv n)
theorem VRs.of_get {l : List AV} {l' : List Value} (hl : l.length = l'.length) (h : ∀ (n : Nat) (v : AV) (v' : Value), l[n]? = some v → l'[n]? = some v' → VR σ v v') : VRs σ l l' := by
  induction l generalizing l' with
  | nil => cases l' with
    | nil => exact .nil
    | cons => simp at hl
  | cons u l ih => cases l' with
    | nil => simp at hl
    | cons u' l' => exact .cons (h 0 u u' rfl rfl) (ih (by simpa using hl) fun n v v' e e' => h (n + 1) v v' (by simpa using e) (by simpa using e'))

theorem VR.one {v : AV} {v' : Value} (h : VR σ v v') : v'.oneCell' = v.one := by cases h <;> rfl

/-- A value's cells. -/
def AV.cells : AV → List AV
  | .agg l => l
  | v => [v]
theorem VR.cells {v : AV} {v' : Value} (h : VR σ v v') : VRs σ v.cells v'.cells.toList := by
  cases h <;> first
    | exact ‹VRs _ _ _›
    | (refine .cons ?_ .nil; constructor <;> assumption)

/-- Constants, and zero values: what is one cell; an aggregate of such. -/
def ofV0 : Value → Option AV
  | .bool b => some (.bool b)
  | .int k n => some (.int k n)
  | .string s => some (.str (bys s))
  | .pointer none => some .nptr
  | .slice none 0 0 => some .nsl
  | .map none => some .nmap
  | .nilFunc => some .nfn
  | .nilIface => some .nifc
  | .func (.func f) ⟨[]⟩ ⟨[]⟩ => some (.fn (.func f) [] [])
  | _ => none
def ofVs : List Value → Option (List AV)
  | [] => some []
  | v :: l => match ofV0 v with
    | none => none
    | some a => match ofVs l with
      | none => none
      | some r => some (a :: r)
def ofV : Value → Option AV
  | .agg ⟨l⟩ => (ofVs l).map .agg
  | .tuple ⟨[]⟩ => some (.tup [])
  | v => ofV0 v

theorem ofV0_vr {v' : Value} {v : AV} (h : ofV0 v' = some v) : VR σ v v' := by
  unfold ofV0 at h
  split at h <;> first
    | (cases h; first
        | exact .fn .nil .nil
        | constructor)
    | cases h
theorem ofVs_vr : ∀ {l' : List Value} {l : List AV}, ofVs l' = some l → VRs σ l l'
  | [], l, h => by cases h; exact .nil
  | v' :: l', l, h => by
    simp only [ofVs] at h
    split at h
    · cases h
    · split at h
      · cases h
      · cases h; exact .cons (ofV0_vr ‹_›) (ofVs_vr ‹_›)
theorem ofV0_one {v' : Value} {v : AV} (h : ofV0 v' = some v) : v.one = true := by
  unfold ofV0 at h
  split at h <;> first
    | (cases h; rfl)
    | cases h
theorem ofVs_one : ∀ {l' : List Value} {l : List AV}, ofVs l' = some l → ∀ v ∈ l, v.one = true
  | [], l, h, v, hv => by cases h; cases hv
  | v' :: l', l, h, v, hv => by
    simp only [ofVs] at h
    split at h
    · cases h
    · split at h
      · cases h
      · cases h
        rcases List.mem_cons.1 hv with rfl | hv
        · exact ofV0_one ‹_›
        · exact ofVs_one ‹_› _ hv
theorem ofV_vr {v' : Value} {v : AV} (h : ofV v' = some v) : VR σ v v' := by
  unfold ofV at h
  split at h
  · cases e : ofVs _ <;> rw [e] at h <;> cases h
    exact .agg (ofVs_vr e) (ofVs_one e)
  · cases h; exact .tup .nil
  · exact ofV0_vr h
end Go.Proofs.YtoiojhmfndmflaaGreatDoor.Rex

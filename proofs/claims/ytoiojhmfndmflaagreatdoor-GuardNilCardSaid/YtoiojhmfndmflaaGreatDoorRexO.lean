/-
  Rex, part O: when frames are what the executor knows; one operation.
-/
import Derived.Test.YtoiojhmfndmflaaGreatDoorRexN
namespace Go.Proofs.YtoiojhmfndmflaaGreatDoor.Rex
open Go

inductive PeR (σ : Sg) : List Pe → List PanicEntry → Prop where
  | nil : PeR σ [] []
  | cons {v : AV} {v' : Value} {b : Bool} {l : List Pe} {l' : List PanicEntry} (h : VR σ v v') (t : PeR σ l l') : PeR σ (⟨v, b⟩ :: l) ({ v := v', recovered := b } :: l')

inductive MdR (σ : Sg) : AMd → FrameMode → Prop where
  | ret : MdR σ .ret .returning
  | pan {ch : List Pe} {ch' : List PanicEntry} (h : PeR σ ch ch') : MdR σ (.pan ch) (.panicking ch')

inductive DfR (σ : Sg) : List ADf → List Deferred → Prop where
  | nil : DfR σ [] []
  | fn {f : FuncId} {cap args : List AV} {cap' args' : List Value} {l : List ADf} {l' : List Deferred} (h1 : VRs σ cap cap') (h2 : VRs σ args args') (t : DfR σ l l') :
      DfR σ (.fn f cap args :: l) ({ target := .fn (.func f) ⟨cap'⟩, args := ⟨args'⟩ } :: l')
  | coll {b c : Nat} {l : List ADf} {l' : List Deferred} (h : σ b 0 = some (c, 0, 0)) (t : DfR σ l l') : DfR σ (.coll b :: l) ({ target := .collected c, args := #[] } :: l')

theorem PeR.mono {σ σ' : Sg} (hs : Sg.le σ σ') {l : List Pe} {l' : List PanicEntry} (h : PeR σ l l') : PeR σ' l l' := by
  induction h with
  | nil => exact .nil
  | cons h _ ih => exact .cons (h.mono hs) ih
theorem MdR.mono {σ σ' : Sg} (hs : Sg.le σ σ') {m : AMd} {m' : FrameMode} (h : MdR σ m m') : MdR σ' m m' := by
  cases h with
  | ret => exact .ret
  | pan h => exact .pan (h.mono hs)
theorem DfR.mono {σ σ' : Sg} (hs : Sg.le σ σ') {l : List ADf} {l' : List Deferred} (h : DfR σ l l') : DfR σ' l l' := by
  induction h with
  | nil => exact .nil
  | fn h1 h2 _ ih => exact .fn (h1.mono hs) (h2.mono hs) ih
  | coll h _ ih => exact .coll (hs _ _ _ h) ih
theorem PeR.append {σ : Sg} {l m : List Pe} {l' m' : List PanicEntry} (h : PeR σ l l') (h' : PeR σ m m') : PeR σ (l ++ m) (l' ++ m') := by
  induction h with
  | nil => exact h'
  | cons h _ ih => exact .cons h ih

structure AcR (σ : Sg) (a : Ac) (ca : Act) : Prop where
  tm : TmR σ a.tm a.nt ca.tmps
  df : DfR σ a.df ca.defers

theorem AcR.mono {σ σ' : Sg} (hs : Sg.le σ σ') {a : Ac} {ca : Act} (h : AcR σ a ca) : AcR σ' a ca := ⟨h.tm.mono hs, h.df.mono hs⟩

/-- The callers, but for how the next one unwinds, are as they were. -/
def UpC (σ : Sg) (up : Option AMd) (cs0 cs : List Frame) : Prop :=
  match up with
  | none => cs = cs0
  | some m => ∃ c0 r md, cs0 = c0 :: r ∧ cs = { c0 with mode := md } :: r ∧ MdR σ m md

theorem UpC.mono {σ σ' : Sg} (hs : Sg.le σ σ') {up : Option AMd} {cs0 cs : List Frame} (h : UpC σ up cs0 cs) : UpC σ' up cs0 cs := by
  cases up with
  | none => exact h
  | some m => obtain ⟨c0, r, md, h1, h2, h3⟩ := h; exact ⟨c0, r, md, h1, h2, h3.mono hs⟩

def kdOf (up : Option AMd) : CallKind :=
  match up with
  | none => .normal
  | some _ => .deferred

def RdR (σ : Sg) (rnd : Option Nat) (r : Option Nat) : Prop :=
  match rnd with
  | none => r = none
  | some b => ∃ l, r = some l ∧ σ b 0 = some (l, 0, 0)
theorem RdR.mono {σ σ' : Sg} (hs : Sg.le σ σ') {rnd r : Option Nat} (h : RdR σ rnd r) : RdR σ' rnd r := by
  cases rnd with
  | none => exact h
  | some b => obtain ⟨l, h1, h2⟩ := h; exact ⟨l, h1, hs _ _ _ h2⟩

/-- A frame at work is what the executor knows. -/
structure At (σ : Sg) (h : Hp) (n : Nat) (w : World) (fn : FuncId) (rnd : Option Nat) (a : Ac) (x : Cx) (ca : Act) (cs0 cs : List Frame) : Prop where
  sr : SR σ h n w
  ac : AcR σ a ca
  up : UpC σ a.up cs0 cs
  fn : x.fn = fn
  rd : RdR σ rnd x.rnd
  kd : x.kind = kdOf a.up

theorem act_eval {σ : Sg} {a : Ac} {ca : Act} (h : AcR σ a ca) : ER σ (evA a.tm) ca.eval := by
  intro o v hv
  cases o with
  | tmp t => exact h.tm.2 t v hv
  | const c => exact ofV_vr hv
  | global g => cases hv
  | func f => cases hv; exact .fn .nil .nil

theorem tm_put {σ : Sg} {tm : Tr AV} {nt : Nat} {tmps : Array Value} (h : TmR σ tm nt tmps) {d : Nat} (hd : d < nt) {v : AV} {v' : Value} (hv : VR σ v v') :
    TmR σ (tm.set d v) nt (tmps.setIfInBounds d v') := by
  refine ⟨by simpa using h.1, fun t u hu => ?_⟩
  rw [Tr.at_set] at hu
  split at hu
  · rename_i e
    cases hu
    subst e
    have : t < tmps.size := by rw [h.1]; exact hd
    simp [Array.getD, this, hv]
  · rename_i hne
    have := h.2 t u hu
    rw [show (tmps.setIfInBounds d v').getD t undef = tmps.getD t undef from by
      simp only [Array.getD_eq_getD_getElem?, Array.getElem?_setIfInBounds]
      rw [if_neg (fun e => hne e.symm)]]
    exact this

theorem put_ok {σ : Sg} {a a' : Ac} {ca : Act} (h : AcR σ a ca) {d : Option Tmp} {v : AV} {v' : Value} (hp : a.put d v = some a') (hv : VR σ v v') :
    AcR σ a' (ca.put d v') ∧ a'.up = a.up ∧ a'.nt = a.nt := by
  cases d with
  | none => cases hp; exact ⟨h, rfl, rfl⟩
  | some d =>
    simp only [Ac.put, Bool.cond_eq_ite] at hp
    split at hp
    · rename_i hd
      rw [nat_blt] at hd
      cases hp
      exact ⟨⟨tm_put h.tm (by simpa using hd) hv, h.df⟩, rfl, rfl⟩
    · cases hp

theorem At.mono {σ σ' : Sg} {h h' : Hp} {n n' : Nat} {w w' : World} {fn : FuncId} {rnd : Option Nat} {a a' : Ac} {x : Cx} {ca ca' : Act} {cs0 cs cs' : List Frame}
    (H : At σ h n w fn rnd a x ca cs0 cs) (hs : Sg.le σ σ') (sr : SR σ' h' n' w') (ac : AcR σ' a' ca') (up : UpC σ' a'.up cs0 cs') (hk : a'.up.isSome = a.up.isSome) :
    At σ' h' n' w' fn rnd a' x ca' cs0 cs' where
  sr := sr
  ac := ac
  up := up
  fn := H.fn
  rd := H.rd.mono hs
  kd := by
    rw [H.kd]
    cases h1 : a.up <;> cases h2 : a'.up <;> simp_all [kdOf]

/-! ## Guards -/

theorem gd_run {σ : Sg} {a : Ac} {ca : Act} (h : AcR σ a ca) {ops : Array Oper} {o : Oper} {b : Bool} (hg : gdA a.tm (guardOf ops.toList o) = some b) :
    Region.wanted o (yielded ops ca.tmps) = b := by
  unfold guardOf at hg
  cases hgd : o.guard with
  | none =>
    rw [hgd] at hg
    cases hg
    simp [Region.wanted, hgd]
  | some p =>
    obtain ⟨j, want⟩ := p
    rw [hgd] at hg
    simp only [nth_toList] at hg
    cases hj : ops[j]? with
    | none =>
      rw [hj] at hg
      cases hg
      simp [Region.wanted, hgd, yielded, hj]
    | some q =>
      rw [hj] at hg
      cases hd : q.dst with
      | none =>
        simp only [hd] at hg
        cases hg
        simp [Region.wanted, hgd, yielded, hj, hd]
      | some d =>
        simp only [hd, gdA] at hg
        split at hg
        · rename_i bv hv
          cases hg
          have := h.tm.2 d _ hv
          generalize hcv : ca.tmps.getD d undef = cv at this
          cases this
          have hq : ca.tmps[d]? = some (.bool bv) := by
            rw [Array.getD_eq_getD_getElem?] at hcv
            cases hq : ca.tmps[d]? with
            | none => rw [hq] at hcv; cases hcv
            | some u => rw [hq] at hcv; exact congrArg some hcv
          simp [Region.wanted, hgd, yielded, hj, hd, hq]
        · rename_i hv
          cases hg
          have := h.tm.2 d _ hv
          generalize hcv : ca.tmps.getD d undef = cv at this
          cases this with | tup ht =>
          cases ht
          have hq : ca.tmps[d]? = none ∨ ca.tmps[d]? = some (.tuple #[]) := by
            rw [Array.getD_eq_getD_getElem?] at hcv
            cases hq : ca.tmps[d]? with
            | none => exact .inl rfl
            | some u => rw [hq] at hcv; exact .inr (congrArg some hcv)
          rcases hq with hq | hq <;> simp [Region.wanted, hgd, yielded, hj, hd, hq]
        · cases hg

/-! ## What calls and rounds owe -/

/-- A frame that leaves. -/
def Lv (P : Program) (σ : Sg) (fr : Frame) (w : World) (kd : CallKind) : AEnd → Prop
  | .retd v => fr.mode = .returning ∧ fr.defers = [] ∧ fr.kind = kd ∧ ∃ fn v', P.funcs[fr.fn]? = some fn ∧ (results fn fr.tmps).run P w = .ok v' w ∧ VR σ v v'
  | .pand ch => ∃ ch' fn, fr.mode = .panicking ch' ∧ fr.defers = [] ∧ fr.kind = kd ∧ P.funcs[fr.fn]? = some fn ∧ PeR σ ch ch'

def CallOk (P : Program) (cf : CallF) : Prop :=
  ∀ f args up h n e up' h' n', cf f args up h n = .ok e up' h' n' → ∀ σ w args' cs0 cs, SR σ h n w → VRs σ args args' → UpC σ up cs0 cs →
    (∀ as W, (callFunc f as).run P W = .ok (.enter f as) W) ∧
    ∃ σ' w' cs' fr, Fr n σ w σ' w' ∧ SR σ' h' n' w' ∧ n ≤ n' ∧ UpC σ' up' cs0 cs' ∧ up'.isSome = up.isSome ∧
      Steps P (lone (Frame.enter P f ⟨args'⟩ (kdOf up)) cs w) (lone fr cs' w') ∧ Lv P σ' fr w' (kdOf up) e

/-- A call (or a round) made by a frame c that goes on. -/
def EndTo (P : Program) (σ : Sg) (m : Machine) (c : Frame) (cs : List Frame) (w : World) : AEnd → Prop
  | .retd v => ∃ v', VR σ v v' ∧ Steps P m (lone (c.finish v') cs w)
  | .pand ch => ∃ ch', PeR σ ch ch' ∧ Steps P m (lone (c.raise ch') cs w)

def RndOk (P : Program) (rf : RndF) : Prop :=
  ∀ b args h n e up h' n', rf b args h n = .ok e up h' n' → ∀ σ w args' l, SR σ h n w → VRs σ args args' → σ b 0 = some (l, 0, 0) →
    ∃ f tmps asg body, (Instr.yield l ⟨args'⟩).run P w = .ok (.round l f tmps asg body) w ∧
      ∀ c cs, ∃ σ' w', Fr n σ w σ' w' ∧ SR σ' h' n' w' ∧ n ≤ n' ∧
        EndTo P σ' (lone (mkF ⟨f, .normal, some l⟩ ⟨tmps, []⟩ [.code asg, .beginRound, .code body] .run) (c :: cs) w) c cs w' e

theorem call_end {P : Program} {σ : Sg} {m : Machine} {fr c : Frame} {cs : List Frame} {w : World} {e : AEnd} (hs : Steps P m (lone fr (c :: cs) w)) (hl : Lv P σ fr w .normal e) : EndTo P σ m c cs w e := by
  cases e with
  | retd v =>
    obtain ⟨h1, h2, h3, fn, v', h4, h5, h6⟩ := hl
    exact ⟨v', h6, hs.trans (.one (step_leave_returned ⟨h1, h2, h3, fn, h4, h5⟩))⟩
  | pand ch =>
    obtain ⟨ch', fn, h1, h2, h3, h4, h5⟩ := hl
    exact ⟨ch', h5, hs.trans (.one (step_leave_panicked ⟨h1, h2, fn, h4⟩))⟩
end Go.Proofs.YtoiojhmfndmflaaGreatDoor.Rex

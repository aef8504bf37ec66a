/-
  Rex, part Fb: one operation, for the kernel. (This text is printed by genFb.py.)
-/
import Derived.Test.YtoiojhmfndmflaaGreatDoorRexFa
namespace Go.Proofs.YtoiojhmfndmflaaGreatDoor.Rex
open Go

structure CxF where
  P : Program
  ib : Nat
  cf : CallF
  rf : RndF
  rnd : Bool

noncomputable def evF : Operand → Tr AV → Option AV :=
  Operand.rec (motive := fun _ => Tr AV → Option AV) (fun t tm => getA (pa t) tm) (fun v _ => ofV v) (fun _ _ => none) (fun f _ => some (.fn (.func f) [] []))
theorem evF_eq (tm : Tr AV) (x : Operand) : evF x tm = evA tm x := by
  cases x with
  | tmp t => exact getA_eq _ _
  | _ => rfl
theorem evF_fun (tm : Tr AV) : (fun x => evF x tm) = evA tm := funext (evF_eq tm)

noncomputable def ap1F (o : Option AV) (f : AV → Option AV) : Option AV := Option.casesOn (motive := fun _ => Option AV) o none f
theorem ap1F_eq (o : Option AV) (f : AV → Option AV) : ap1F o f = ap1 o f := by cases o <;> rfl
noncomputable def ap0F (o : Option (List (Nat × AV))) (f : List (Nat × AV) → Option AV) : Option AV := Option.casesOn (motive := fun _ => Option AV) o none f
noncomputable def ap2F (o p : Option AV) (f : AV → AV → Option (Nat × Bk)) : Option (Nat × Bk) :=
  Option.casesOn (motive := fun _ => Option (Nat × Bk)) o none fun u => Option.casesOn (motive := fun _ => Option (Nat × Bk)) p none fun v => f u v

noncomputable def putF : Option Tmp → AV → Ac → Hp → Nat → RO :=
  Option.rec (motive := fun _ => AV → Ac → Hp → Nat → RO) (fun _ a h n => .ok a h n)
    (fun d v a h n => Ac.casesOn (motive := fun _ => RO) a fun tm nt df up => Bool.casesOn (motive := fun _ => RO) (Nat.blt d nt) .no (.ok ⟨putA (pa d) v tm, nt, df, up⟩ h n))
theorem putF_eq (a : Ac) (d : Option Tmp) (v : AV) (h : Hp) (n : Nat) : putF d v a h n = roPut a d v h n := by
  cases d with
  | none => rfl
  | some d =>
    obtain ⟨tm, nt, df, up⟩ := a
    simp only [putF, roPut, Ac.put, putA_eq]
    cases hb : Nat.blt d nt <;> rfl

noncomputable def valF : Option AV → Oper → Ac → Hp → Nat → RO := Option.rec (motive := fun _ => Oper → Ac → Hp → Nat → RO) (fun _ _ _ _ => .no) (fun v o a h n => putF o.dst v a h n)
noncomputable def storeF : Option (Nat × Bk) → Oper → Ac → Hp → Nat → RO :=
  Option.rec (motive := fun _ => Oper → Ac → Hp → Nat → RO) (fun _ _ _ _ => .no) (fun r o a h n => putF o.dst (.tup []) a (putB (pa r.1) r.2 h) n)

noncomputable def nthF : List AV → Nat → Option AV :=
  List.rec (motive := fun _ => Nat → Option AV) (fun _ => none) (fun a _ ih n => Nat.casesOn (motive := fun _ => Option AV) n (some a) ih)
theorem nthF_eq : ∀ (l : List AV) (n : Nat), nthF l n = nth l n
  | [], 0 => rfl
  | [], _ + 1 => rfl
  | _ :: _, 0 => rfl
  | _ :: l, n + 1 => nthF_eq l n
noncomputable def dropF : List AV → Nat → List AV :=
  List.rec (motive := fun _ => Nat → List AV) (fun _ => []) (fun a l ih n => Nat.casesOn (motive := fun _ => List AV) n (a :: l) ih)
theorem dropF_eq : ∀ (l : List AV) (n : Nat), dropF l n = l.drop n
  | [], 0 => rfl
  | [], _ + 1 => rfl
  | _ :: _, 0 => rfl
  | _ :: l, n + 1 => dropF_eq l n
noncomputable def takeF : List AV → Nat → List AV :=
  List.rec (motive := fun _ => Nat → List AV) (fun _ => []) (fun a _ ih n => Nat.casesOn (motive := fun _ => List AV) n [] (fun m => a :: ih m))
theorem takeF_eq : ∀ (l : List AV) (n : Nat), takeF l n = l.take n
  | [], 0 => rfl
  | [], _ + 1 => rfl
  | _ :: _, 0 => rfl
  | a :: l, n + 1 => congrArg (a :: ·) (takeF_eq l n)
noncomputable def splF (new : List AV) : List AV → Nat → List AV :=
  List.rec (motive := fun _ => Nat → List AV) (fun _ => new) (fun a l ih n => Nat.casesOn (motive := fun _ => List AV) n (new ++ dropF (a :: l) new.length) (fun m => a :: ih m))
theorem splF_eq (new : List AV) : ∀ (l : List AV) (n : Nat), splF new l n = spl l n new
  | [], n => by simp [spl, splF]
  | a :: l, 0 => by
    show new ++ dropF (a :: l) new.length = _
    rw [dropF_eq]; simp [spl]
  | a :: l, n + 1 => by
    show a :: splF new l n = _
    rw [splF_eq new l n]
    simp only [spl, List.take_succ_cons, List.cons_append, show n + 1 + new.length = n + new.length + 1 from by omega, List.drop_succ_cons]

noncomputable def partF (P : Program) (t : TypeId) (l : List AV) (off : Nat) : Option AV :=
  match ty P t with
  | none => none
  | some i => bif i.agg then some (.agg (takeF (dropF l off) i.size)) else nthF l off
theorem partF_eq (P : Program) (t : TypeId) (l : List AV) (off : Nat) : partF P t l off = partA P t l off := by
  unfold partF partA
  simp only [dropF_eq, takeF_eq, nthF_eq]
  rfl
noncomputable def fieldF (P : Program) (s : TypeId) (x : AV) (f : Nat) : Option AV :=
  match ty P s with
  | none => none
  | some i => match i.d, x with
    | .struct fs, .agg l => match nth fs.toList f with
      | none => none
      | some fd => partF P fd.type l fd.offset
    | _, _ => none
theorem fieldF_eq (P : Program) (s : TypeId) (x : AV) (f : Nat) : fieldF P s x f = fieldA P s x f := by
  unfold fieldF fieldA
  simp only [partF_eq]
  rfl

noncomputable def cellsF (i : TI) (g off ext : Nat) : Option Bk → Option AV
  | some ⟨_, .cells cs _ _ wgen _⟩ =>
    bif Nat.ble wgen g && Nat.ble i.size ext then
      bif i.agg then some (.agg (takeF (dropF cs off) i.size)) else bif Nat.beq i.size 1 then nthF cs off else none
    else none
  | _ => none
noncomputable def loadF (P : Program) (t : TypeId) (v : AV) (h : Hp) : Option AV :=
  match v with
  | .ptr b g off ext => match ty P t with
    | some i => cellsF i g off ext (getB (pa b) h)
    | none => none
  | _ => none
theorem loadF_eq (P : Program) (t : TypeId) (v : AV) (h : Hp) : loadF P t v h = loadA P t v h := by
  unfold loadF loadA
  cases v with
  | ptr b g off ext =>
    cases ty P t with
    | none => rfl
    | some i =>
      show cellsF i g off ext (getB (pa b) h) = _
      rw [getB_eq]
      show cellsF i g off ext (h.at b) = _
      dsimp only
      generalize h.at b = y
      cases y with
      | none => rfl
      | some x =>
        obtain ⟨v, o⟩ := x
        cases o <;> first | rfl | simp only [cellsF, dropF_eq, takeF_eq, nthF_eq, splF_eq]
  | _ => cases ty P t <;> rfl
noncomputable def cellsS (i : TI) (b g off ext : Nat) (v : AV) : Option Bk → Option (Nat × Bk)
  | some ⟨ver, .cells cs len gen wgen pl⟩ =>
    bif Nat.beq g gen && v.nt && Nat.beq v.cells.length i.size && Nat.ble i.size ext && Nat.ble 1 i.size then
      some (b, ⟨ver + 1, .cells (splF v.cells cs off) len gen (bif Nat.ble pl off then wgen else gen) pl⟩)
    else none
  | _ => none
noncomputable def stF (P : Program) (t : TypeId) (p v : AV) (h : Hp) : Option (Nat × Bk) :=
  match p with
  | .ptr b g off ext => match ty P t with
    | some i => cellsS i b g off ext v (getB (pa b) h)
    | none => none
  | _ => none
theorem stF_eq (P : Program) (t : TypeId) (p v : AV) (h : Hp) : stF P t p v h = storeA P t p v h := by
  unfold stF storeA
  cases p with
  | ptr b g off ext =>
    cases ty P t with
    | none => rfl
    | some i =>
      show cellsS i b g off ext v (getB (pa b) h) = _
      rw [getB_eq]
      show cellsS i b g off ext v (h.at b) = _
      dsimp only
      generalize h.at b = y
      cases y with
      | none => rfl
      | some x =>
        obtain ⟨v, o⟩ := x
        cases o <;> first | rfl | simp only [cellsS, dropF_eq, takeF_eq, nthF_eq, splF_eq]
  | _ => cases ty P t <;> rfl

noncomputable def allF : Option (Blk × (Nat → AV)) → Oper → Ac → Hp → Nat → RO :=
  Option.rec (motive := fun _ => Oper → Ac → Hp → Nat → RO) (fun _ _ _ _ => .no) (fun r o a h n => putF o.dst (r.2 n) a (putB (pa n) ⟨0, r.1⟩ h) (n + 1))

def slowF (P : Program) (C : CxF) (o : Oper) (a : Ac) (h : Hp) (n : Nat) : RO := opX P C.ib C.cf C.rf C.rnd o a h n

noncomputable def roEndF : RE → Option Tmp → Ac → RO :=
  RE.rec (motive := fun _ => Option Tmp → Ac → RO) (fun _ _ => .no)
    (fun e _ h n d a => AEnd.casesOn (motive := fun _ => RO) e (fun v => putF d v a h n) (fun ch => .pan ch a h n))
theorem roEndF_eq (r : RE) (d : Option Tmp) (a : Ac) : roEndF r d a = roEnd a d r := by
  cases r with
  | no => rfl
  | ok e up h n =>
    cases e with
    | retd v => exact putF_eq _ _ _ _ _
    | pand ch => rfl
noncomputable def evsF : List Operand → Tr AV → Option (List AV) :=
  List.rec (motive := fun _ => Tr AV → Option (List AV)) (fun _ => some [])
    (fun x _ ih tm => Option.casesOn (motive := fun _ => Option (List AV)) (evF x tm) none fun v => Option.casesOn (motive := fun _ => Option (List AV)) (ih tm) none fun l => some (v :: l))
theorem evsF_eq (tm : Tr AV) : ∀ l : List Operand, evsF l tm = evs (evA tm) l
  | [] => rfl
  | x :: l => by
    have ih := evsF_eq tm l
    show (Option.casesOn (motive := fun _ => Option (List AV)) (evF x tm) none fun v => Option.casesOn (motive := fun _ => Option (List AV)) (evsF l tm) none fun l => some (v :: l) : Option (List AV)) = _
    rw [ih, evF_eq]
    simp only [evs]
    cases evA tm x with
    | none => rfl
    | some v => cases evs (evA tm) l <;> rfl

noncomputable def goF : Option (List AV) → FuncId → CxF → Oper → Ac → Hp → Nat → RO :=
  Option.rec (motive := fun _ => FuncId → CxF → Oper → Ac → Hp → Nat → RO) (fun _ _ _ _ _ _ => .no) (fun args g C o a h n => roEndF (C.cf g args none h n) o.dst a)

/-- A call of a function that is named. -/
noncomputable def namedF : Operand → Call → Program → CxF → Oper → Ac → Hp → Nat → RO :=
  Operand.rec (motive := fun _ => Call → Program → CxF → Oper → Ac → Hp → Nat → RO) (fun _ _ => slowF) (fun _ _ => slowF) (fun _ _ => slowF)
    (fun g c P C o a h n => Bool.casesOn (motive := fun _ => RO) (Nat.beq g C.ib) (goF (evsF c.args.toList a.tm) g C o a h n) (slowF P C o a h n))
noncomputable def calleeF : Callee → Call → Program → CxF → Oper → Ac → Hp → Nat → RO :=
  Callee.rec (motive := fun _ => Call → Program → CxF → Oper → Ac → Hp → Nat → RO) (fun f => namedF f) (fun _ _ _ => slowF) (fun _ _ => slowF)

noncomputable def opF : Op → Program → CxF → Oper → Ac → Hp → Nat → RO :=
  Op.rec (motive := fun _ => Program → CxF → Oper → Ac → Hp → Nat → RO)
    (fun x P C o a h n => valF (evF x a.tm) o a h n)
    (fun x P C o a h n => valF (evF x a.tm) o a h n)
    (fun c x y P C o a h n => valF (ap1F (evF c a.tm) fun c => ap1F (evF x a.tm) fun x => ap1F (evF y a.tm) fun y => pickA c x y) o a h n)
    (fun _ P C o a h n => allF (allocOp P (fun x => evF x a.tm) o.op) o a h n)
    (fun _ _ P C o a h n => allF (allocOp P (fun x => evF x a.tm) o.op) o a h n)
    (fun t ps P C o a h n => valF (ap0F (evp (fun x => evF x a.tm) ps.toList) fun ps => buildA P t ps) o a h n)
    (fun _ _ _ P C o a h n => allF (allocOp P (fun x => evF x a.tm) o.op) o a h n)
    (fun _ _ _ _ => slowF)
    (fun t x P C o a h n => valF (ap1F (evF x a.tm) fun u => loadF P t u h) o a h n)
    (fun t p x P C o a h n => storeF (ap2F (evF p a.tm) (evF x a.tm) fun u v => stF P t u v h) o a h n)
    (fun _ => slowF)
    (fun _ => slowF)
    (fun x P C o a h n => valF (ap1F (evF x a.tm) nilCheckA) o a h n)
    (fun op t x y _ P C o a h n => valF (ap1F (evF x a.tm) fun u => ap1F (evF y a.tm) fun v => binA P op t (isCst x || isCst y) u v) o a h n)
    (fun op _ x P C o a h n => valF (ap1F (evF x a.tm) (unA op)) o a h n)
    (fun _ _ _ => slowF)
    (fun _ _ => slowF)
    (fun t x P C o a h n => valF (ap1F (evF x a.tm) (mkIfcA P t)) o a h n)
    (fun _ _ _ => slowF)
    (fun _ _ => slowF)
    (fun _ _ => slowF)
    (fun _ _ _ => slowF)
    (fun t x lo hi mx P C o a h n => valF (ap1F (evF x a.tm) fun u => sliceA P t (fun x => evF x a.tm) u lo hi mx) o a h n)
    (fun s x f P C o a h n => valF (ap1F (evF x a.tm) fun u => fieldAddrA P s u f) o a h n)
    (fun s x f P C o a h n => valF (ap1F (evF x a.tm) fun u => fieldF P s u f) o a h n)
    (fun t x i P C o a h n => valF (ap1F (evF x a.tm) fun u => ap1F (evF i a.tm) fun v => indexAddrA P t u v) o a h n)
    (fun t x i P C o a h n => valF (ap1F (evF x a.tm) fun u => ap1F (evF i a.tm) fun v => indexA P t u v) o a h n)
    (fun _ _ _ _ => slowF)
    (fun _ _ _ _ => slowF)
    (fun _ _ _ => slowF)
    (fun _ _ _ _ => slowF)
    (fun _ _ => slowF)
    (fun _ _ => slowF)
    (fun _ => slowF)
    (fun x _ t ok P C o a h n => valF (ap1F (evF x a.tm) fun u => assertA P u t ok) o a h n)
    (fun x i P C o a h n => valF (ap1F (evF x a.tm) fun u => extA u i) o a h n)
    (fun c P C o a h n => calleeF c.callee c P C o a h n)
    (fun _ => slowF)
    (fun _ => slowF)
    (fun _ => slowF)
    (fun _ _ => slowF)
    (fun _ _ _ => slowF)
    (fun _ _ => slowF)

theorem val_eq {C : CxF} {o : Oper} {a : Ac} {h : Hp} {n : Nat} {v : Option AV} (h1 : pureOp C.P (evA a.tm) o.op = v)
    (h2 : readOp C.P (evA a.tm) o.op h = none) (h3 : allocOp C.P (evA a.tm) o.op = none) (h4 : effOp C.P C.ib (evA a.tm) o.op h = none) (h5 : ctlX C.cf C.rf C.rnd o a h n = .no) :
    valF v o a h n = slowF C.P C o a h n := by
  unfold slowF opX
  rw [h1]
  cases v with
  | some v => exact putF_eq _ _ _ _ _
  | none => simp only [h2, h3, h4, h5]; rfl

theorem all_eq {C : CxF} {o : Oper} {a : Ac} {h : Hp} {n : Nat} {v : Option (Blk × (Nat → AV))} (h1 : pureOp C.P (evA a.tm) o.op = none)
    (h2 : readOp C.P (evA a.tm) o.op h = none) (h3 : v = allocOp C.P (evA a.tm) o.op) (h4 : effOp C.P C.ib (evA a.tm) o.op h = none) (h5 : ctlX C.cf C.rf C.rnd o a h n = .no) :
    allF v o a h n = slowF C.P C o a h n := by
  unfold slowF opX
  subst h3
  simp only [h1, h2, h4, h5]
  cases allocOp C.P (evA a.tm) o.op with
  | some r => simp only [allF, putB_eq, putF_eq]; rfl
  | none => rfl

theorem opF_eq (C : CxF) (o : Oper) (a : Ac) (h : Hp) (n : Nat) : opF o.op C.P C o a h n = opX C.P C.ib C.cf C.rf C.rnd o a h n := by
  obtain ⟨dst, op, typ, pos, after, guard⟩ := o
  cases op with
  | move => exact val_eq (by simp only [evF_eq]; rfl) rfl rfl rfl rfl
  | assign => exact val_eq (by simp only [evF_eq]; rfl) rfl rfl rfl rfl
  | pick => exact val_eq (by simp only [ap1F_eq, evF_eq]; rfl) rfl rfl rfl rfl
  | nilCheck => exact val_eq (by simp only [ap1F_eq, evF_eq]; rfl) rfl rfl rfl rfl
  | binOp => exact val_eq (by simp only [ap1F_eq, evF_eq]; rfl) rfl rfl rfl rfl
  | unOp => exact val_eq (by simp only [ap1F_eq, evF_eq]; rfl) rfl rfl rfl rfl
  | fieldAddr => exact val_eq (by simp only [ap1F_eq, evF_eq]; rfl) rfl rfl rfl rfl
  | field => exact val_eq (by simp only [ap1F_eq, evF_eq, fieldF_eq]; rfl) rfl rfl rfl rfl
  | indexAddr => exact val_eq (by simp only [ap1F_eq, evF_eq]; rfl) rfl rfl rfl rfl
  | index => exact val_eq (by simp only [ap1F_eq, evF_eq]; rfl) rfl rfl rfl rfl
  | extract => exact val_eq (by simp only [ap1F_eq, evF_eq]; rfl) rfl rfl rfl rfl
  | makeInterface => exact val_eq (by simp only [ap1F_eq, evF_eq]; rfl) rfl rfl rfl rfl
  | typeAssert => exact val_eq (by simp only [ap1F_eq, evF_eq]; rfl) rfl rfl rfl rfl
  | build t ps =>
    show valF (ap0F (evp (fun x => evF x a.tm) ps.toList) fun ps => buildA C.P t ps) _ a h n = _
    refine val_eq ?_ rfl rfl rfl rfl
    rw [evF_fun]
    show (match evp (evA a.tm) ps.toList with | none => none | some ps => buildA C.P t ps) = ap0F _ _
    cases evp (evA a.tm) ps.toList <;> rfl
  | slice t x lo hi mx =>
    show valF (ap1F (evF x a.tm) fun u => sliceA C.P t (fun x => evF x a.tm) u lo hi mx) _ a h n = _
    refine val_eq ?_ rfl rfl rfl rfl
    rw [evF_fun, evF_eq, ap1F_eq]
    rfl
  | alloc t => exact all_eq rfl rfl (by rw [evF_fun]) rfl rfl
  | box t x => exact all_eq rfl rfl (by rw [evF_fun]) rfl rfl
  | buildSlice t l ps => exact all_eq rfl rfl (by rw [evF_fun]) rfl rfl
  | load t x =>
    show valF (ap1F (evF x a.tm) fun u => loadF C.P t u h) _ a h n = _
    unfold opX
    simp only [ap1F_eq, evF_eq, loadF_eq, pureOp, readOp]
    cases ap1 (evA a.tm x) fun u => loadA C.P t u h with
    | some v => exact putF_eq _ _ _ _ _
    | none => rfl
  | store t p x =>
    show storeF (ap2F (evF p a.tm) (evF x a.tm) fun u v => stF C.P t u v h) _ a h n = _
    unfold opX
    simp only [evF_eq, pureOp, readOp, allocOp, effOp]
    cases evA a.tm p with
    | none => rfl
    | some u =>
      cases evA a.tm x with
      | none => rfl
      | some v =>
        simp only [ap2F, ap1R, storeR, stF_eq]
        cases storeA C.P t u v h with
        | none => rfl
        | some r =>
          obtain ⟨b, y⟩ := r
          simp only [storeF, putB_eq, putF_eq]
          rfl
  | call c =>
    obtain ⟨callee, args, argTypes⟩ := c
    cases callee with
    | value f =>
      cases f with
      | func g =>
        show (Bool.casesOn (motive := fun _ => RO) (Nat.beq g C.ib) (goF (evsF args.toList a.tm) g C _ a h n) _ : RO) = _
        cases hg : Nat.beq g C.ib with
        | true => rfl
        | false =>
          simp only [opX, pureOp, readOp, allocOp, effOp, hg, cond_false, ctlX, evA, evsF_eq]
          cases evs (evA a.tm) args.toList with
          | none => rfl
          | some l => simp only [List.nil_append, List.append_nil, goF, roEndF_eq]
      | _ => rfl
    | _ => rfl
  | _ => rfl
end Go.Proofs.YtoiojhmfndmflaaGreatDoor.Rex

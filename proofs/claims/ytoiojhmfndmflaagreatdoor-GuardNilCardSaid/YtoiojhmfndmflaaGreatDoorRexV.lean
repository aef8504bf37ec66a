/-
  Rex, part V: a region that draws its order: it is run in the order of the text, and looked at whether every order comes to the same.
-/
import Derived.Orders
import Derived.Test.YtoiojhmfndmflaaGreatDoorRexU
namespace Go.Proofs.YtoiojhmfndmflaaGreatDoor.Rex
open Go

/-! ## Are two values the same? -/

def fnEq : Fn → Fn → Bool
  | .func f, .func g => Nat.beq f g
  | _, _ => false
theorem fnEq_eq {f g : Fn} (h : fnEq f g = true) : f = g := by
  cases f <;> cases g <;> first | (simp only [fnEq, Nat.beq_eq] at h; rw [h]) | cases h

mutual
def AV.eqb : AV → AV → Bool
  | .bool a, .bool b => a == b
  | .int k n, .int k' n' => decide (k = k') && decide (n = n')
  | .str l, .str l' => l == l'
  | .nptr, .nptr => true
  | .ptr b g o e, .ptr b' g' o' e' => Nat.beq b b' && Nat.beq g g' && Nat.beq o o' && Nat.beq e e'
  | .nsl, .nsl => true
  | .sl b g o l s k x, .sl b' g' o' l' s' k' x' => Nat.beq b b' && Nat.beq g g' && Nat.beq o o' && Nat.beq l l' && Nat.beq s s' && Nat.beq k k' && (x == x')
  | .se, .se => true
  | .nmap, .nmap => true
  | .map b, .map b' => Nat.beq b b'
  | .fn f x y, .fn f' x' y' => fnEq f f' && AV.eqbs x x' && AV.eqbs y y'
  | .yfn b, .yfn b' => Nat.beq b b'
  | .nfn, .nfn => true
  | .ifc t v, .ifc t' v' => Nat.beq t t' && AV.eqb v v'
  | .nifc, .nifc => true
  | .agg l, .agg l' => AV.eqbs l l'
  | .tup l, .tup l' => AV.eqbs l l'
  | .it b, .it b' => Nat.beq b b'
  | _, _ => false
def AV.eqbs : List AV → List AV → Bool
  | [], [] => true
  | v :: l, v' :: l' => AV.eqb v v' && AV.eqbs l l'
  | _, _ => false
end

mutual
theorem AV.eqb_eq : ∀ {a b : AV}, AV.eqb a b = true → a = b
  | .bool a, b, h => by cases b <;> first | (simp only [AV.eqb, beq_iff_eq] at h; rw [h]) | cases h
  | .int k n, b, h => by cases b <;> first | (simp only [AV.eqb, Bool.and_eq_true, decide_eq_true_eq] at h; rw [h.1, h.2]) | cases h
  | .str l, b, h => by cases b <;> first | (simp only [AV.eqb, beq_iff_eq] at h; rw [h]) | cases h
  | .nptr, b, h => by cases b <;> first | rfl | cases h
  | .ptr _ _ _ _, b, h => by cases b <;> first | (simp only [AV.eqb, Bool.and_eq_true, Nat.beq_eq] at h; obtain ⟨⟨⟨h1, h2⟩, h3⟩, h4⟩ := h; rw [h1, h2, h3, h4]) | cases h
  | .nsl, b, h => by cases b <;> first | rfl | cases h
  | .sl _ _ _ _ _ _ _, b, h => by
    cases b <;> first | (simp only [AV.eqb, Bool.and_eq_true, Nat.beq_eq, beq_iff_eq] at h; obtain ⟨⟨⟨⟨⟨⟨h1, h2⟩, h3⟩, h4⟩, h5⟩, h6⟩, h7⟩ := h; rw [h1, h2, h3, h4, h5, h6, h7]) | cases h
  | .se, b, h => by cases b <;> first | rfl | cases h
  | .nmap, b, h => by cases b <;> first | rfl | cases h
  | .map _, b, h => by cases b <;> first | (simp only [AV.eqb, Nat.beq_eq] at h; rw [h]) | cases h
  | .fn f x y, b, h => by
    cases b <;> first | (simp only [AV.eqb, Bool.and_eq_true] at h; obtain ⟨⟨h1, h2⟩, h3⟩ := h; rw [fnEq_eq h1, AV.eqbs_eq h2, AV.eqbs_eq h3]) | cases h
  | .yfn _, b, h => by cases b <;> first | (simp only [AV.eqb, Nat.beq_eq] at h; rw [h]) | cases h
  | .nfn, b, h => by cases b <;> first | rfl | cases h
  | .ifc t v, b, h => by cases b <;> first | (simp only [AV.eqb, Bool.and_eq_true, Nat.beq_eq] at h; rw [h.1, AV.eqb_eq h.2]) | cases h
  | .nifc, b, h => by cases b <;> first | rfl | cases h
  | .agg l, b, h => by cases b <;> first | (simp only [AV.eqb] at h; rw [AV.eqbs_eq h]) | cases h
  | .tup l, b, h => by cases b <;> first | (simp only [AV.eqb] at h; rw [AV.eqbs_eq h]) | cases h
  | .it _, b, h => by cases b <;> first | (simp only [AV.eqb, Nat.beq_eq] at h; rw [h]) | cases h
theorem AV.eqbs_eq : ∀ {a b : List AV}, AV.eqbs a b = true → a = b
  | [], [], _ => rfl
  | [], _ :: _, h => by cases h
  | _ :: _, [], h => by cases h
  | v :: l, v' :: l', h => by
    simp only [AV.eqbs, Bool.and_eq_true] at h
    rw [AV.eqb_eq h.1, AV.eqbs_eq h.2]
end

/-! ## What stands ahead of what -/

def edMask (acc : List Nat) : List Edge → Nat
  | [] => 0
  | e :: es => bif Region.binds .any e then (2 ^ e.on) ||| ((match nth acc e.on with | none => 0 | some m => m) ||| edMask acc es) else edMask acc es

/-- Of every operation (acc: of those ahead of it): the set of those that are carried out ahead of it, whatever the order; none: an edge that binds leads to no earlier one. -/
def masks : List Nat → List Oper → Option (List Nat)
  | acc, [] => some acc
  | acc, o :: l => bif o.after.toList.all (fun e => !Region.binds .any e || Nat.blt e.on acc.length) then masks (acc ++ [edMask acc o.after.toList]) l else none

def ordB (ms : List Nat) (i j : Nat) : Bool :=
  match nth ms j with
  | none => false
  | some m => m.testBit i

/-! ## The run -/

structure DSt where
  a : Ac
  h : Hp
  n : Nat

inductive Rz where
  | val
  | read (v : AV) (bs : List Nat)
  | alloc (x : Blk)
  | store (b : Nat)
  | heavy

def rst (tm : Tr AV) : List Tmp → Tr AV
  | [] => .lf
  | t :: ts => match tm.at t with
    | none => rst tm ts
    | some v => (rst tm ts).set t v

/-- What an operation sees of the temporaries. -/
def see (ops : Array Oper) (o : Oper) (tm : Tr AV) : Tr AV := rst tm (o.looksAt ops)

mutual
/-- The blocks that a value names. -/
def AV.blks : AV → List Nat
  | .ptr b _ _ _ => [b]
  | .sl b _ _ _ _ _ _ => [b]
  | .map b => [b]
  | .it b => [b]
  | .ifc _ v => AV.blks v
  | .agg l => AV.blkss l
  | _ => []
def AV.blkss : List AV → List Nat
  | [] => []
  | v :: l => AV.blks v ++ AV.blkss l
end

def touched (tm : Tr AV) : List Tmp → List Nat
  | [] => []
  | t :: ts => match tm.at t with
    | none => touched tm ts
    | some v => AV.blks v ++ touched tm ts

/-- A part of memory. -/
def cutH (h : Hp) : List Nat → Hp
  | [] => .lf
  | b :: bs => match h.at b with
    | none => cutH h bs
    | some x => (cutH h bs).set b x

def dput (z : Rz) (o : Oper) (s : DSt) (v : AV) (h : Hp) (n : Nat) : Option (Rz × DSt) :=
  match s.a.put o.dst v with
  | none => none
  | some a => some (z, ⟨a, h, n⟩)

/-- A store, or a map's filling: looked at in its own block alone. -/
def storeOp (P : Program) (ev : Ev) (op : Op) (h : Hp) : Option (Nat × Bk) :=
  match op with
  | .store t p v => match ev p, ev v with
    | some (.ptr b g off ext), some vv => match h.at b with
      | none => none
      | some y => storeA P t (.ptr b g off ext) vv (Tr.set .lf b y)
    | _, _ => none
  | .insert t m k v => match ev m, ev k, ev v with
    | some (.map b), some kk, some vv => match h.at b with
      | none => none
      | some y => match updA P t (.map b) kk vv (Tr.set .lf b y) with
        | some (.wr _ b' x) => bif Nat.beq b' b then some (b, x) else none
        | _ => none
    | _, _, _ => none
  | _ => none

def dstep (P : Program) (ib : Nat) (cf : CallF) (rf : RndF) (rnd : Bool) (ops : Array Oper) (o : Oper) (s : DSt) : Option (Rz × DSt) :=
  let r := see ops o s.a.tm
  match gdA r (guardOf ops.toList o) with
  | none => none
  | some false => dput .val o s (.tup []) s.h s.n
  | some true =>
    match pureOp P (evA r) o.op with
    | some v => dput .val o s v s.h s.n
    | none =>
      let bs := touched r (o.looksAt ops)
      match readOp P (evA r) o.op (cutH s.h bs) with
      | some v => dput (.read v bs) o s v s.h s.n
      | none => match allocOp P (evA r) o.op with
        | some (x, f) => dput (.alloc x) o s (f s.n) (s.h.set s.n ⟨0, x⟩) (s.n + 1)
        | none => match storeOp P (evA r) o.op s.h with
          | some (b, x) => bif Nat.blt b s.n then dput (.store b) o s (.tup []) (s.h.set b x) s.n else none
          | none => match opX P ib cf rf rnd o { s.a with tm := r } s.h s.n with
            | .ok a h n => bif Nat.ble s.n n then (match o.dst with
              | none => some (.heavy, ⟨⟨s.a.tm, s.a.nt, a.df, a.up⟩, h, n⟩)
              | some d => match a.tm.at d with
                | none => none
                | some v => some (.heavy, ⟨⟨s.a.tm.set d v, s.a.nt, a.df, a.up⟩, h, n⟩)) else none
            | _ => none

/-- An operation that has been carried out in the order of the text: the operation, what it was, the state ahead of it, the state behind it. -/
structure Ent where
  o : Oper
  z : Rz
  s : DSt
  s1 : DSt

def drun (P : Program) (ib : Nat) (cf : CallF) (rf : RndF) (rnd : Bool) (ops : Array Oper) : List Oper → DSt → Option (List Ent × DSt)
  | [], s => some ([], s)
  | o :: l, s => match dstep P ib cf rf rnd ops o s with
    | none => none
    | some (z, s') => match drun P ib cf rf rnd ops l s' with
      | none => none
      | some (es, f) => some (⟨o, z, s, s'⟩ :: es, f)

/-! ## The looks -/

def dstIs (d : Option Tmp) (t : Tmp) : Bool :=
  match d with
  | none => false
  | some d => Nat.beq d t

def Rz.isHeavy : Rz → Bool
  | .heavy => true
  | _ => false

/-- Must two operations (the first stands ahead in the text) be carried out in this order, for what they do to memory? -/
def memClash (x y : Ent) : Bool :=
  match x.z, y.z with
  | .heavy, .heavy => true
  | .heavy, .store b => Nat.blt b x.s1.n
  | .store _, .heavy => true
  | .alloc _, .heavy => true
  | .alloc _, .store b => Nat.beq x.s.n b
  | .alloc _, .read _ bs => bs.any (Nat.beq x.s.n)
  | .store b, .store c => Nat.beq b c
  | .store b, .read _ bs => bs.any (Nat.beq b)
  | .read _ bs, .store b => bs.any (Nat.beq b)
  | _, _ => false
def tmpClash (ops : Array Oper) (x y : Ent) : Bool :=
  (match x.o.dst with
   | none => false
   | some t => dstIs y.o.dst t || (y.o.looksAt ops).any (Nat.beq t)) ||
  (match y.o.dst with
   | none => false
   | some t => (x.o.looksAt ops).any (Nat.beq t))
def clash (ops : Array Oper) (x y : Ent) : Bool := tmpClash ops x y || memClash x y

/-- x (place i) against all that follow (from place j). -/
def looks1 (ms : List Nat) (ops : Array Oper) (x : Ent) (i : Nat) : Nat → List Ent → Bool
  | _, [] => true
  | j, y :: l => (!clash ops x y || ordB ms i j) && looks1 ms ops x i (j + 1) l
def looksA (ms : List Nat) (ops : Array Oper) : Nat → List Ent → Bool
  | _, [] => true
  | i, x :: l => looks1 ms ops x i (i + 1) l && looksA ms ops (i + 1) l

/-- May exactly the effects ahead of place q have been carried out when place j comes up? (i: the place of the list's head) -/
def mayB (ms : List Nat) (j q : Nat) : Nat → List Ent → Bool
  | _, [] => true
  | i, e :: l => (!e.z.isHeavy || ((!ordB ms i j || Nat.blt i q) && (!ordB ms j i || Nat.ble q i))) && mayB ms j q (i + 1) l

/-- No effect from place q to place j (q ahead of j): the read is as it was in the order of the text. -/
def sameSeg (q j : Nat) : Nat → List Ent → Bool
  | _, [] => true
  | i, e :: l => (!e.z.isHeavy || Nat.blt i q || Nat.ble j i) && sameSeg q j (i + 1) l

/-- The stores on these blocks stand on the same side of q and j. -/
def sideB (bs : List Nat) (q j : Nat) : Nat → List Ent → Bool
  | _, [] => true
  | i, e :: l => (match e.z with
    | .store b => !bs.any (Nat.beq b) || (Nat.blt i q == Nat.blt i j)
    | _ => true) && sideB bs q j (i + 1) l

/-- A read at place j, in the memory (h) with the effects ahead of place q. -/
def readAt (P : Program) (ms : List Nat) (ops : Array Oper) (all : List Ent) (x : Ent) (v : AV) (bs : List Nat) (j q : Nat) (h : Hp) : Bool :=
  (Nat.ble q j && sameSeg q j 0 all) || !mayB ms j q 0 all ||
  (sideB bs q j 0 all && (match readOp P (evA (see ops x.o x.s.a.tm)) x.o.op (cutH h bs) with
    | none => false
    | some v' => AV.eqb v' v))

/-- .. behind every effect. (q: the place of the list's head) -/
def readAll (P : Program) (ms : List Nat) (ops : Array Oper) (all : List Ent) (x : Ent) (v : AV) (bs : List Nat) (j : Nat) : Nat → List Ent → Bool
  | _, [] => true
  | q, e :: l => (!e.z.isHeavy || readAt P ms ops all x v bs j (q + 1) e.s1.h) && readAll P ms ops all x v bs j (q + 1) l

def looksR (P : Program) (ms : List Nat) (ops : Array Oper) (all : List Ent) (h0 : Hp) : Nat → List Ent → Bool
  | _, [] => true
  | j, x :: l => (match x.z with
    | .read v bs => readAt P ms ops all x v bs j 0 h0 && readAll P ms ops all x v bs j 0 all
    | _ => true) && looksR P ms ops all h0 (j + 1) l

/-- A REGION THAT DRAWS ITS ORDER. -/
def drawX (P : Program) (ib : Nat) (cf : CallF) (rf : RndF) (rnd : Bool) (l : List Oper) (a : Ac) (h : Hp) (n : Nat) : RC :=
  match masks [] l with
  | none => .no
  | some ms => match drun P ib cf rf rnd l.toArray l ⟨a, h, n⟩ with
    | none => .no
    | some (es, f) => bif looksA ms l.toArray 0 es && looksR P ms l.toArray es h 0 es then .ok .normal f.a f.h f.n else .no
end Go.Proofs.YtoiojhmfndmflaaGreatDoor.Rex

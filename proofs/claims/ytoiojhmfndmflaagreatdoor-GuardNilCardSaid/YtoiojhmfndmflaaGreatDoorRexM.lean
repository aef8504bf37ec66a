/-
  Rex, part M: the executor: operations, regions, code, calls.
-/
import Derived.Test.YtoiojhmfndmflaaGreatDoorRexL
namespace Go.Proofs.YtoiojhmfndmflaaGreatDoor.Rex
open Go

inductive ADf where
  | fn (f : FuncId) (cap args : List AV)
  | coll (b : Nat)

/-- A panic under way: its value; has it been recovered? -/
structure Pe where
  v : AV
  rc : Bool

inductive AMd where
  | ret
  | pan (ch : List Pe)

inductive AEx where
  | normal
  | exit (id : Nat)
  | goto (l : Nat)
  | ret
  | panic (ch : List Pe)

inductive AEnd where
  | retd (v : AV)
  | pand (ch : List Pe)

/-- A function's temporaries, its deferred calls, and (of a deferred call) how its caller's frame is unwinding. -/
structure Ac where
  tm : Tr AV
  nt : Nat
  df : List ADf
  up : Option AMd

inductive RC where
  | no
  | ok (e : AEx) (a : Ac) (h : Hp) (n : Nat)
inductive RE where
  | no
  | ok (e : AEnd) (up : Option AMd) (h : Hp) (n : Nat)
inductive RO where
  | no
  | ok (a : Ac) (h : Hp) (n : Nat)
  | pan (ch : List Pe) (a : Ac) (h : Hp) (n : Nat)

def evA (tm : Tr AV) : Operand → Option AV
  | .tmp t => tm.at t
  | .const v => ofV v
  | .global _ => none
  | .func f => some (.fn (.func f) [] [])

def Ac.put (a : Ac) (d : Option Tmp) (v : AV) : Option Ac :=
  match d with
  | none => some a
  | some d => bif Nat.blt d a.nt then some { a with tm := a.tm.set d v } else none

def roPut (a : Ac) (d : Option Tmp) (v : AV) (h : Hp) (n : Nat) : RO :=
  match a.put d v with
  | none => .no
  | some a => .ok a h n

abbrev CallF := FuncId → List AV → Option AMd → Hp → Nat → RE
abbrev RndF := Nat → List AV → Hp → Nat → RE

def roEnd (a : Ac) (d : Option Tmp) : RE → RO
  | .no => .no
  | .ok (.retd v) _ h n => roPut a d v h n
  | .ok (.pand ch) _ h n => .pan ch a h n

def panA (x : Option AV) (a : Ac) (h : Hp) (n : Nat) : RO :=
  match x with
  | some (.ifc t v) => .pan [⟨.ifc t v, false⟩] a h n
  | _ => .no

/-- What an operation does that calls, defers, panics, recovers. -/
def ctlX (cf : CallF) (rf : RndF) (rnd : Bool) (o : Oper) (a : Ac) (h : Hp) (n : Nat) : RO :=
  match o.op with
  | .call c => match c.callee with
    | .value f => match evA a.tm f, evs (evA a.tm) c.args.toList with
      | some (.fn (.func g) first cap), some args => roEnd a o.dst (cf g (first ++ args ++ cap) none h n)
      | some (.yfn b), some args => roEnd a o.dst (rf b args h n)
      | _, _ => .no
    | .builtin .recover => bif rnd then .no else match a.up with
      | none => .no
      | some (.pan (⟨v, false⟩ :: older)) => roPut { a with up := some (.pan (⟨v, true⟩ :: older)) } o.dst v h n
      | some _ => roPut a o.dst .nifc h n
    | .builtin .panic => match c.args.toList with
      | [x] => panA (evA a.tm x) a h n
      | _ => .no
    | _ => .no
  | .panic x => panA (evA a.tm x) a h n
  | .defer c => bif rnd then .no else match c.callee with
    | .value f => match evA a.tm f, evs (evA a.tm) c.args.toList with
      | some (.fn (.func g) first cap), some args => roPut { a with df := .fn g cap (first ++ args) :: a.df } o.dst (.tup []) h n
      | _, _ => .no
    | _ => .no
  | _ => .no

/-- What an operation touches (for regions that draw their order). -/
inductive Fp where
  | skip
  | pure
  | read (b : Option Nat)
  | alloc
  | eff (bs : List Nat) (mk : Bool)
  | call

/-- One operation. -/
def opX (P : Program) (ib : Nat) (cf : CallF) (rf : RndF) (rnd : Bool) (o : Oper) (a : Ac) (h : Hp) (n : Nat) : RO :=
  match pureOp P (evA a.tm) o.op with
  | some v => roPut a o.dst v h n
  | none => match readOp P (evA a.tm) o.op h with
    | some v => roPut a o.dst v h n
    | none => match allocOp P (evA a.tm) o.op with
      | some (x, f) => roPut a o.dst (f n) (h.set n ⟨0, x⟩) (n + 1)
      | none => match effOp P ib (evA a.tm) o.op h with
        | some r => roPut a o.dst (r.val n) (r.hp h n) (r.nx n)
        | none => ctlX cf rf rnd o a h n

/-- Is an operation carried out? (d: where the guard's operation has put its value.) -/
def gdA (tm : Tr AV) : Option (Option Tmp × Bool) → Option Bool
  | none => some true
  | some (none, _) => some false
  | some (some d, want) => match tm.at d with
    | some (.bool b) => some (b == want)
    | some (.tup []) => some false
    | _ => none

def guardOf (ops : List Oper) (o : Oper) : Option (Option Tmp × Bool) :=
  match o.guard with
  | none => none
  | some (j, want) => some ((match nth ops j with | none => none | some p => p.dst), want)

/-- A region whose order stands: its operations in the order of the text. -/
def opsX (P : Program) (ib : Nat) (cf : CallF) (rf : RndF) (rnd : Bool) (ops : List Oper) : List Oper → Ac → Hp → Nat → RO
  | [], a, h, n => .ok a h n
  | o :: rest, a, h, n =>
    match gdA a.tm (guardOf ops o) with
    | none => .no
    | some false => match a.put o.dst (.tup []) with
      | none => .no
      | some a => opsX P ib cf rf rnd ops rest a h n
    | some true => match opX P ib cf rf rnd o a h n with
      | .ok a h n => opsX P ib cf rf rnd ops rest a h n
      | r => r

def rcOf : RO → RC
  | .no => .no
  | .ok a h n => .ok .normal a h n
  | .pan ch a h n => .ok (.panic ch) a h n

/-! ## Rounds of a range over a function -/

def setPs : List Tmp → List AV → Nat → Tr AV → Option (Tr AV)
  | [], [], _, tm => some tm
  | p :: ps, v :: vs, nt, tm => bif Nat.blt p nt then setPs ps vs nt (tm.set p v) else none
  | _, _, _, _ => none

def jumpOf : AEx → Option (Option Code)
  | .normal => some none
  | .ret => some (some .ret)
  | .exit id => some (some (.exit id))
  | .goto l => some (some (.goto l))
  | .panic _ => none

def jno : Option Code → Bool
  | none => true
  | some _ => false
def jst : Option Code → LoopState
  | none => .ready
  | some _ => .done

def exOf : Option Code → Option AEx
  | none => some .normal
  | some .ret => some .ret
  | some (.exit id) => some (.exit id)
  | some (.goto l) => some (.goto l)
  | _ => none

abbrev CodeF := FuncId → Option Nat → Code → Ac → Hp → Nat → RC

def loopAt (h : Hp) (b : Nat) : Option (Nat × Lp) :=
  match h.at b with
  | some ⟨v, .loop l⟩ => some (v, l)
  | _ => none

/-- A function with a body, and no one of the model's own. -/
def look (P : Program) (f : FuncId) : Option (Func × Code) :=
  match nthC P.funcs.toList f with
  | none => none
  | some fn => bif fn.name == "runtime.NumGoroutine" then none else match fn.body with
    | none => none
    | some c => some (fn, c)

def rndX (P : Program) (cx : CodeF) (b : Nat) (args : List AV) (h : Hp) (n : Nat) : RE :=
  match loopAt h b with
  | none => .no
  | some (_, l) => match setPs l.ps.toList args l.nt l.tm, look P l.fn with
    | some tm, some _ => match cx l.fn (some b) l.asg ⟨tm, l.nt, [], none⟩ h n with
      | .ok .normal a h n => match loopAt h b with
        | none => .no
        | some (v, l1) => match l1.st with
          | .ready => match cx l.fn (some b) l.body a (h.set b ⟨v + 1, .loop { l1 with st := .busy }⟩) n with
            | .no => .no
            | .ok e a h n => match a.df with
              | _ :: _ => .no
              | [] => match e with
                | .panic ch => .ok (.pand ch) none h n
                | e => match jumpOf e, loopAt h b with
                  | some j, some (v, l) => .ok (.retd (.bool (jno j))) none
                      (h.set b ⟨v + 1, .loop { l with st := jst j, pend := j }⟩) n
                  | _, _ => .no
          | _ => .no
      | _ => .no
    | _, _ => .no

def scopeX (run : Code → Ac → Hp → Nat → RC) (body : Code) : Nat → Code → Ac → Hp → Nat → RC
  | 0, _, _, _, _ => .no
  | f + 1, c, a, h, n =>
    match run c a h n with
    | .ok (.goto l) a h n => match findLabel body l with
      | none => .ok (.goto l) a h n
      | some rest => scopeX run body f rest a h n
    | r => r

def isBusy : LoopState → Bool
  | .busy => true
  | _ => false

/-- Behind the call of the function that is ranged over. -/
def endLp (b : Nat) (a : Ac) : RE → RC
  | .no => .no
  | .ok (.pand ch) _ h n => .ok (.panic ch) a h n
  | .ok (.retd _) _ h n => match loopAt h b with
    | none => .no
    | some (v, l) => bif isBusy l.st then .no else match exOf l.pend with
      | none => .no
      | some e => .ok e a (h.set b ⟨v + 1, .loop { l with st := .exhausted }⟩) n

def rangeX (cf : CallF) (fn : FuncId) (rnd : Option Nat) (g : Operand) (ps : Array Tmp) (asg body : Code) (a : Ac) (h : Hp) (n : Nat) : RC :=
  match evA a.tm g with
  | some (.fn (.func gf) first cap) =>
    match rnd with
    | none =>
      endLp (n + 1) { a with df := .coll n :: a.df }
        (cf gf (first ++ [.yfn (n + 1)] ++ cap) none ((h.set n ⟨0, .dfr true⟩).set (n + 1) ⟨0, .loop ⟨.ready, none, fn, a.tm, a.nt, ps, asg, body, n⟩⟩) (n + 2))
    | some l => match loopAt h l with
      | none => .no
      | some (_, lp) => endLp n a (cf gf (first ++ [.yfn n] ++ cap) none (h.set n ⟨0, .loop ⟨.ready, none, fn, a.tm, a.nt, ps, asg, body, lp.df⟩⟩) (n + 1))
  | _ => .no

/-- Code. dx: a region that draws its order. -/
def codeX (P : Program) (ib : Nat) (cf : CallF) (dx : RndF → Bool → List Oper → Ac → Hp → Nat → RC) : Nat → CodeF
  | 0 => fun _ _ _ _ _ _ => .no
  | f + 1 => fun fn rnd c a h n =>
    match c with
    | .skip => .ok .normal a h n
    | .label _ => .ok .normal a h n
    | .ret => .ok .ret a h n
    | .exit id => .ok (.exit id) a h n
    | .goto l => .ok (.goto l) a h n
    | .seq x y => match codeX P ib cf dx f fn rnd x a h n with
      | .ok .normal a h n => codeX P ib cf dx f fn rnd y a h n
      | r => r
    | .cond c x y => match evA a.tm c with
      | some (.bool true) => codeX P ib cf dx f fn rnd x a h n
      | some (.bool false) => codeX P ib cf dx f fn rnd y a h n
      | _ => .no
    | .block id b => match codeX P ib cf dx f fn rnd b a h n with
      | .ok (.exit id') a h n => bif Nat.beq id' id then .ok .normal a h n else .ok (.exit id') a h n
      | r => r
    | .loop b => match codeX P ib cf dx f fn rnd b a h n with
      | .ok .normal a h n => codeX P ib cf dx f fn rnd (.loop b) a h n
      | r => r
    | .scope b => scopeX (codeX P ib cf dx f fn rnd) b f b a h n
    | .region _ ops draw =>
      bif draw then dx (rndX P (codeX P ib cf dx f)) rnd.isSome ops.toList a h n
      else rcOf (opsX P ib cf (rndX P (codeX P ib cf dx f)) rnd.isSome ops.toList ops.toList a h n)
    | .rangeFunc g ps asg body => rangeX cf fn rnd g ps asg body a h n
    | .refuse _ => .no

/-! ## Calls -/

def resA1 (P : Program) (tm : Tr AV) (h : Hp) : ResultVar → Option AV
  | .tmp t => tm.at t
  | .cell a t => match tm.at a with
    | none => none
    | some v => loadA P t v h
def resAs (P : Program) (tm : Tr AV) (h : Hp) : List ResultVar → Option (List AV)
  | [] => some []
  | r :: rs => match resA1 P tm h r with
    | none => none
    | some v => match resAs P tm h rs with
      | none => none
      | some l => some (v :: l)
def resultsA (P : Program) (fn : Func) (tm : Tr AV) (h : Hp) : Option AV :=
  match resAs P tm h fn.results.toList with
  | none => none
  | some [v] => some v
  | some l => some (.tup l)

def settleA : AMd → AMd
  | .pan (⟨_, true⟩ :: _) => .ret
  | m => m
def raisedA (m : AMd) (ch : List Pe) : AMd :=
  match m with
  | .pan old => .pan (ch ++ old)
  | .ret => .pan ch

/-- The deferred calls, then the return (or the panic goes on). -/
def leaveX (P : Program) (cf : CallF) (fn : Func) (tm : Tr AV) (up : Option AMd) : List ADf → AMd → Hp → Nat → RE
  | [], .ret, h, n => match resultsA P fn tm h with
    | none => .no
    | some v => .ok (.retd v) up h n
  | [], .pan ch, h, n => .ok (.pand ch) up h n
  | .coll b :: ds, m, h, n => match h.at b with
    | some ⟨v, .dfr true⟩ => leaveX P cf fn tm up ds m (h.set b ⟨v + 1, .dfr false⟩) n
    | _ => .no
  | .fn f cap args :: ds, m, h, n => match cf f (args ++ cap) (some m) h n with
    | .ok (.retd _) (some m') h n => leaveX P cf fn tm up ds (settleA m') h n
    | .ok (.pand ch) (some m') h n => leaveX P cf fn tm up ds (raisedA m' ch) h n
    | _ => .no

def setArgs : Nat → List AV → Tr AV → Tr AV
  | _, [], tm => tm
  | i, v :: vs, tm => setArgs (i + 1) vs (tm.set i v)

def bodyX (P : Program) (cf : CallF) (cx : CodeF) (f : FuncId) (args : List AV) (up : Option AMd) (h : Hp) (n : Nat) : RE :=
  match look P f with
  | none => .no
  | some (fn, c) => match cx f none c ⟨setArgs 0 args .lf, args.length + (fn.ntmps - args.length), [], up⟩ h n with
    | .ok .normal a h n => leaveX P cf fn a.tm a.up a.df .ret h n
    | .ok .ret a h n => leaveX P cf fn a.tm a.up a.df .ret h n
    | .ok (.panic ch) a h n => leaveX P cf fn a.tm a.up a.df (.pan ch) h n
    | _ => .no

def callX (P : Program) (ib : Nat) (dx : CallF → RndF → Bool → List Oper → Ac → Hp → Nat → RC) (K : Nat) : Nat → CallF
  | 0 => fun _ _ _ _ _ => .no
  | d + 1 => bodyX P (callX P ib dx K d) (codeX P ib (callX P ib dx K d) (dx (callX P ib dx K d)) K)
end Go.Proofs.YtoiojhmfndmflaaGreatDoor.Rex

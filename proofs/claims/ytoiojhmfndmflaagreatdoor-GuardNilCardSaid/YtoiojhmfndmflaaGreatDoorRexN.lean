/-
  Rex, part N: the model's machine, step by step, for a frame of any make.
-/
import Derived.Recover
import Derived.Test.YtoiojhmfndmflaaGreatDoorRexM
namespace Go.Proofs.YtoiojhmfndmflaaGreatDoor.Rex
open Go

structure Cx where
  fn : FuncId
  kind : CallKind
  rnd : Option Nat

def mkF (x : Cx) (ca : Act) (todo : List Item) (mode : FrameMode) : Frame :=
  { fn := x.fn, tmps := ca.tmps, todo, defers := ca.defers, mode, kind := x.kind, roundOf := x.rnd }

theorem mkF_eval (x : Cx) (ca : Act) (todo : List Item) (mode : FrameMode) : (mkF x ca todo mode).eval = ca.eval := by
  funext o; cases o <;> rfl

section
variable {P : Program} {x : Cx} {ca : Act} {k : List Item} {cs : List Frame} {w : World}

theorem st_skip : step P (lone (mkF x ca (.code .skip :: k) .run) cs w) = .next (lone (mkF x ca k .run) cs w) := step_lone_go (by simp [stepG, stepG.exec, mkF])
theorem st_label {l : Nat} : step P (lone (mkF x ca (.code (.label l) :: k) .run) cs w) = .next (lone (mkF x ca k .run) cs w) := step_lone_go (by simp [stepG, stepG.exec, mkF])
theorem st_inBlock {id : Nat} : step P (lone (mkF x ca (.inBlock id :: k) .run) cs w) = .next (lone (mkF x ca k .run) cs w) := step_lone_go (by simp [stepG, stepG.exec, mkF])
theorem st_inScope {c : Code} : step P (lone (mkF x ca (.inScope c :: k) .run) cs w) = .next (lone (mkF x ca k .run) cs w) := step_lone_go (by simp [stepG, stepG.exec, mkF])
theorem st_seq {a b : Code} : step P (lone (mkF x ca (.code (.seq a b) :: k) .run) cs w) = .next (lone (mkF x ca (.code a :: .code b :: k) .run) cs w) :=
  step_lone_go (by simp [stepG, stepG.exec, mkF])
theorem st_cond {c : Operand} {a b : Code} {t : Bool} (h : ca.eval c = .bool t) :
    step P (lone (mkF x ca (.code (.cond c a b) :: k) .run) cs w) = .next (lone (mkF x ca (.code (if t then a else b) :: k) .run) cs w) :=
  step_lone_go (by
    have := congrFun (mkF_eval x ca (.code (.cond c a b) :: k) .run) c
    simp only [mkF] at this
    simp [stepG, stepG.exec, mkF, this, h])
theorem st_block {id : Nat} {c : Code} : step P (lone (mkF x ca (.code (.block id c) :: k) .run) cs w) = .next (lone (mkF x ca (.code c :: .inBlock id :: k) .run) cs w) :=
  step_lone_go (by simp [stepG, stepG.exec, mkF])
theorem st_loop {c : Code} : step P (lone (mkF x ca (.code (.loop c) :: k) .run) cs w) = .next (lone (mkF x ca (.code c :: .inLoop c :: k) .run) cs w) :=
  step_lone_go (by simp [stepG, stepG.exec, mkF])
theorem st_inLoop {c : Code} : step P (lone (mkF x ca (.inLoop c :: k) .run) cs w) = .next (lone (mkF x ca (.code c :: .inLoop c :: k) .run) cs w) :=
  step_lone_go (by simp [stepG, stepG.exec, mkF])
theorem st_scope {c : Code} : step P (lone (mkF x ca (.code (.scope c) :: k) .run) cs w) = .next (lone (mkF x ca (.code c :: .inScope c :: k) .run) cs w) :=
  step_lone_go (by simp [stepG, stepG.exec, mkF])
theorem st_exit {id : Nat} {k' : List Item} (h : exitTo id k = some k') : step P (lone (mkF x ca (.code (.exit id) :: k) .run) cs w) = .next (lone (mkF x ca k' .run) cs w) :=
  step_lone_go (by simp [stepG, stepG.exec, mkF, h])
theorem st_goto {l : Nat} {k' : List Item} (h : gotoIn l k = some k') : step P (lone (mkF x ca (.code (.goto l) :: k) .run) cs w) = .next (lone (mkF x ca k' .run) cs w) :=
  step_lone_go (by simp [stepG, stepG.exec, mkF, h])
theorem st_region {id : Nat} {ops : Array Oper} :
    step P (lone (mkF x ca (.code (.region id ops false) :: k) .run) cs w) = .next (lone (mkF x ca (.inRegion ops (List.range ops.size) :: k) .run) cs w) :=
  step_lone_go (by simp [stepG, stepG.exec, mkF])
theorem st_region_draw {id : Nat} {ops : Array Oper} :
    step P (lone (mkF x ca (.code (.region id ops true) :: k) .run) cs w) =
      .next (lone (mkF x ca (.inRegion ops (Region.schedule (P.follows .mixedOrders) ops (w.tape w.drawn (.order x.fn id))) :: k) .run) cs { w with drawn := w.drawn + 1 }) :=
  step_lone_go (by simp [stepG, stepG.exec, mkF, choose, Sem.run, Question.forced, Question.cut])
theorem st_region_end {ops : Array Oper} : step P (lone (mkF x ca (.inRegion ops [] :: k) .run) cs w) = .next (lone (mkF x ca k .run) cs w) :=
  step_lone_go (by simp [stepG, stepG.exec, mkF])

/-- A function's body ends: by its end, or by return. -/
theorem st_end (hr : x.rnd = none) : step P (lone (mkF x ca [] .run) cs w) = .next (lone (mkF x ca [] .returning) cs w) :=
  step_lone_go (by simp [stepG, stepG.exec, mkF, hr])
theorem st_ret (hr : x.rnd = none) : step P (lone (mkF x ca (.code .ret :: k) .run) cs w) = .next (lone (mkF x ca (.code .ret :: k) .returning) cs w) :=
  step_lone_go (by simp [stepG, stepG.exec, mkF, hr])

variable {ops : Array Oper} {i : Nat} {rest : List Nat} {o : Oper}

theorem finish_mkF (v : Value) : (mkF x ca (.inRegion ops (i :: rest) :: k) .run).finish v = mkF x (ca.put ((ops[i]?).bind (·.dst)) v) (.inRegion ops rest :: k) .run := by
  cases h : (ops[i]?).bind (·.dst) <;> simp [Frame.finish, mkF, Act.put, h]

theorem st_op_skip (h : ((ops[i]?).map (Region.wanted · (yielded ops ca.tmps))).getD false = false) :
    step P (lone (mkF x ca (.inRegion ops (i :: rest) :: k) .run) cs w) = .next (lone (mkF x (ca.put ((ops[i]?).bind (·.dst)) undef) (.inRegion ops rest :: k) .run) cs w) := by
  rw [← finish_mkF]
  exact step_lone_go (by
    have h' := h
    simp only [mkF] at *
    simp [stepG, stepG.exec, h'])

/-- An operation that is carried out (no defer statement of a round). -/
theorem stG_op (ho : ops[i]? = some o) (hw : Region.wanted o (yielded ops ca.tmps) = true) (hd : x.rnd = none ∨ ∀ c, o.op ≠ .defer c) :
    stepG P true { frame := mkF x ca (.inRegion ops (i :: rest) :: k) .run, callers := cs, status := .running, dying := none } w =
      stepG.apply P true (mkF x ca (.inRegion ops (i :: rest) :: k) .run) cs none (execOp ca.eval o) w := by
  have he := mkF_eval x ca (.inRegion ops (i :: rest) :: k) .run
  simp only [mkF] at he
  rcases hd with hd | hd
  · rw [hd] at he
    simp [stepG, stepG.exec, stepG.oper, Frame.oper?, mkF, ho, hw, he, hd]
  · cases hr : x.rnd with
    | none =>
      rw [hr] at he
      simp [stepG, stepG.exec, stepG.oper, Frame.oper?, mkF, ho, hw, he, hr]
    | some l =>
      rw [hr] at he
      simp only [stepG, stepG.exec, stepG.oper, Frame.oper?, mkF, ho, hw, he, hr, Option.map_some, Option.getD_some, if_true]
      split
      · rename_i heq1 heq2; exact absurd heq2 (hd _)
      · rfl

theorem st_value (ho : ops[i]? = some o) (hw : Region.wanted o (yielded ops ca.tmps) = true) (hd : x.rnd = none ∨ ∀ c, o.op ≠ .defer c) {v : Value} {w' : World}
    (hr : WentBy ((execOp ca.eval o).run P w) v w') :
    step P (lone (mkF x ca (.inRegion ops (i :: rest) :: k) .run) cs w) = .next (lone (mkF x (ca.put o.dst v) (.inRegion ops rest :: k) .run) cs w') := by
  have hg := stG_op (P := P) (cs := cs) (w := w) (rest := rest) (k := k) ho hw hd
  have hf := finish_mkF (x := x) (ca := ca) (k := k) (ops := ops) (i := i) (rest := rest) v
  rw [ho] at hf
  simp only [Option.bind_some] at hf
  rcases hr with hr | ⟨hr, rfl⟩
  · refine step_lone_go ?_
    rw [hg, ← hf]; simp [stepG.apply, hr]
  · refine step_lone_go ?_
    rw [hg, ← hf]; simp [stepG.apply, hr]

theorem st_enter (ho : ops[i]? = some o) (hw : Region.wanted o (yielded ops ca.tmps) = true) (hd : x.rnd = none ∨ ∀ c, o.op ≠ .defer c) {f : FuncId} {args : Array Value} {w' : World}
    (hr : (execOp ca.eval o).run P w = .ok (.enter f args) w') :
    step P (lone (mkF x ca (.inRegion ops (i :: rest) :: k) .run) cs w) = .next (lone (Frame.enter P f args .normal) (mkF x ca (.inRegion ops (i :: rest) :: k) .run :: cs) w') := by
  have hg := stG_op (P := P) (cs := cs) (w := w) (rest := rest) (k := k) ho hw hd
  exact step_lone_go (by rw [hg]; simp [stepG.apply, hr, mkF])

theorem st_round (ho : ops[i]? = some o) (hw : Region.wanted o (yielded ops ca.tmps) = true) (hd : x.rnd = none ∨ ∀ c, o.op ≠ .defer c) {l : Nat} {f : FuncId} {tmps : Array Value} {asg body : Code}
    {w' : World} (hr : (execOp ca.eval o).run P w = .ok (.round l f tmps asg body) w') :
    step P (lone (mkF x ca (.inRegion ops (i :: rest) :: k) .run) cs w) =
      .next (lone (mkF ⟨f, .normal, some l⟩ ⟨tmps, []⟩ [.code asg, .beginRound, .code body] .run) (mkF x ca (.inRegion ops (i :: rest) :: k) .run :: cs) w') := by
  have hg := stG_op (P := P) (cs := cs) (w := w) (rest := rest) (k := k) ho hw hd
  exact step_lone_go (by rw [hg]; simp [stepG.apply, hr, mkF, Frame.round])

theorem st_panic (ho : ops[i]? = some o) (hw : Region.wanted o (yielded ops ca.tmps) = true) (hd : x.rnd = none ∨ ∀ c, o.op ≠ .defer c) {v : Value} {w' : World}
    (hr : (execOp ca.eval o).run P w = .halt (.panic v) w') :
    step P (lone (mkF x ca (.inRegion ops (i :: rest) :: k) .run) cs w) = .next (lone (mkF x ca (.inRegion ops (i :: rest) :: k) (.panicking [{ v, recovered := false }])) cs w') := by
  have hg := stG_op (P := P) (cs := cs) (w := w) (rest := rest) (k := k) ho hw hd
  exact step_lone_go (by rw [hg]; simp [stepG.apply, hr, mkF, Frame.raise])

theorem st_defer (ho : ops[i]? = some o) (hw : Region.wanted o (yielded ops ca.tmps) = true) (hd : x.rnd = none) {d : Deferred} {w' : World}
    (hr : (execOp ca.eval o).run P w = .ok (.defer d) w') :
    step P (lone (mkF x ca (.inRegion ops (i :: rest) :: k) .run) cs w) = .next (lone (mkF x ({ ca with defers := d :: ca.defers }.put o.dst undef) (.inRegion ops rest :: k) .run) cs w') := by
  have hg := stG_op (P := P) (cs := cs) (w := w) (rest := rest) (k := k) ho hw (.inl hd)
  have hf := finish_mkF (x := x) (ca := { ca with defers := d :: ca.defers }) (k := k) (ops := ops) (i := i) (rest := rest) undef
  rw [ho] at hf
  simp only [Option.bind_some] at hf
  refine step_lone_go ?_
  rw [hg]
  simp only [stepG.apply, if_true, Sem.runT_eq, hr, GStep.bare_after]
  exact congrArg (fun fr => GStep.go { frame := fr, callers := cs, status := .running, dying := none } w') hf

/-- recover in a deferred call. -/
theorem st_recover (ho : ops[i]? = some o) (hw : Region.wanted o (yielded ops ca.tmps) = true) (hd : x.rnd = none) (hk : x.kind = .deferred) {w' : World}
    (hr : (execOp ca.eval o).run P w = .ok .recover w') {v : Value} {cs' : List Frame} (hc : (recoverD cs = some (v, cs')) ∨ (recoverD cs = none ∧ v = .nilIface ∧ cs' = cs)) :
    step P (lone (mkF x ca (.inRegion ops (i :: rest) :: k) .run) cs w) = .next (lone (mkF x (ca.put o.dst v) (.inRegion ops rest :: k) .run) cs' w') := by
  have hg := stG_op (P := P) (cs := cs) (w := w) (rest := rest) (k := k) ho hw (.inl hd)
  have hf := finish_mkF (x := x) (ca := ca) (k := k) (ops := ops) (i := i) (rest := rest) v
  rw [ho] at hf
  simp only [Option.bind_some] at hf
  have htr := tryRecover_deferred (fr := mkF x ca (.inRegion ops (i :: rest) :: k) .run) hk cs
  refine step_lone_go ?_
  rw [hg, ← hf]
  simp only [mkF, hd] at htr ⊢
  rcases hc with hc | ⟨hc, rfl, rfl⟩
  · rw [hc] at htr
    simp [stepG.apply, hr, htr, hd]
  · rw [hc] at htr
    simp [stepG.apply, hr, htr, hd]

/-! ## Rounds -/

theorem st_beginRound {l : Nat} (hx : x.rnd = some l) {w' : World} (hr : (Instr.beginRound l).run P w = .ok () w') :
    step P (lone (mkF x ca (.beginRound :: k) .run) cs w) = .next (lone (mkF x ca k .run) cs w') := by
  refine step_lone_go ?_
  simp [stepG, stepG.exec, stepG.apply, mkF, hx, hr, Frame.finish]

/-- What leaves a round: its end, a return, an exit or a goto out of it. -/
inductive LvI : List Item → Option Code → Prop where
  | fin : LvI [] none
  | ret (k : List Item) : LvI (.code .ret :: k) (some .ret)
  | exit (id : Nat) (k : List Item) (h : exitTo id k = none) : LvI (.code (.exit id) :: k) (some (.exit id))
  | goto (l : Nat) (k : List Item) (h : gotoIn l k = none) : LvI (.code (.goto l) :: k) (some (.goto l))

theorem st_endRound {l : Nat} (hx : x.rnd = some l) (hk : x.kind = .normal) {todo : List Item} {j : Option Code} (ht : LvI todo j) {v : Value} {w' : World}
    (hr : (Instr.endRound l j).run P w = .ok v w') (c : Frame) :
    step P (lone (mkF x ca todo .run) (c :: cs) w) = .next (lone (c.finish v) cs w') := by
  refine step_lone_go ?_
  cases ht with
  | fin => simp [stepG, stepG.exec, mkF, hx, Sem.runT_eq, hr, doReturn, hk]
  | ret k => simp [stepG, stepG.exec, mkF, hx, Sem.runT_eq, hr, doReturn, hk]
  | exit id k h => simp [stepG, stepG.exec, mkF, hx, h, Sem.runT_eq, hr, doReturn, hk]
  | goto id k h => simp [stepG, stepG.exec, mkF, hx, h, Sem.runT_eq, hr, doReturn, hk]
end
end Go.Proofs.YtoiojhmfndmflaaGreatDoor.Rex

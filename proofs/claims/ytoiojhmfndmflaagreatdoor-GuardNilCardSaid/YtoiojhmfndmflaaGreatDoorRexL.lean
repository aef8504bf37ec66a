/-
  Rex, part L: all operations that change memory and call nothing, in one function.
-/
import Derived.Test.YtoiojhmfndmflaaGreatDoorRexK
namespace Go.Proofs.YtoiojhmfndmflaaGreatDoor.Rex
open Go

def idxA : List Nat → Nat → Int
  | [], _ => -1
  | b :: l, c => bif Nat.beq b c then 0 else bif ieq (idxA l c) (-1) then -1 else idxA l c + 1

theorem idxA_eq (c : UInt8) : ∀ l : List UInt8, idxA (l.map (·.toNat)) c.toNat = Lib.indexByte l c
  | [] => rfl
  | b :: l => by
    simp only [List.map_cons, idxA, Lib.indexByte, idxA_eq c l, nat_beq, ieq_eq, Bool.cond_eq_ite, decide_eq_true_eq]
    have h1 : (b.toNat = c.toNat) ↔ ((b == c) = true) := by rw [UInt8.toNat_inj]; simp
    by_cases hb : b.toNat = c.toNat
    · rw [if_pos hb, if_pos (h1.1 hb)]
    · rw [if_neg hb, if_neg (fun e => hb (h1.2 e))]
      by_cases hq : Lib.indexByte l c = -1
      · rw [if_pos hq, if_pos (by simp [hq])]
      · rw [if_neg hq, if_neg (by simpa using hq)]

/-- Function ib is bytealg's IndexByteString, which the model answers by an entry. -/
structure IbOk (P : Program) (ib : Nat) : Prop where
  ok : ∃ fn, P.funcs[ib]? = some fn ∧ (fn.name == "runtime.NumGoroutine") = false ∧ fn.body.isNone = true ∧ Extern.findNext fn = none ∧ Extern.find fn = some Extern.BytealgIndexByte.indexByte

def rangeMapA (P : Program) (t : TypeId) (x : AV) (h : Hp) : Option ApR :=
  match ty P t, x with
  | some i, .map b => match i.d, h.at b with
    | .map _ _, some ⟨_, .map _ clock⟩ => some (.mk (.miter b clock [] clock) fun n => .it n)
    | _, _ => none
  | _, _ => none

def ap1R (o : Option AV) (f : AV → Option ApR) : Option ApR :=
  match o with
  | none => none
  | some v => f v

def storeR (P : Program) (t : TypeId) (p v : AV) (h : Hp) : Option ApR :=
  match storeA P t p v h with
  | none => none
  | some (b, x) => some (.wr (.tup []) b x)

def ibA (a b : AV) : Option ApR :=
  match a, b with
  | .str l, .int .u8 (.ofNat c) => bif Nat.blt c 256 then some (.keep (.int .i64 (idxA l c))) else none
  | _, _ => none

def effOp (P : Program) (ib : Nat) (ev : Ev) (op : Op) (h : Hp) : Option ApR :=
  match op with
  | .store t a x => ap1R (ev a) fun a => ap1R (ev x) fun x => storeR P t a x h
  | .mapUpdate t m k v => ap1R (ev m) fun m => ap1R (ev k) fun k => ap1R (ev v) fun v => updA P t m k v h
  | .insert t m k v => ap1R (ev m) fun m => ap1R (ev k) fun k => ap1R (ev v) fun v => updA P t m k v h
  | .mapEntry t m k => ap1R (ev m) fun m => ap1R (ev k) fun k => entryA P t m k h
  | .entryStore _ m s v => ap1R (ev m) fun m => ap1R (ev s) fun s => ap1R (ev v) fun v => entStA m s v h
  | .next it isStr => ap1R (ev it) fun x => bif isStr then nextStrA x h else nextMapA x h
  | .entry it => ap1R (ev it) fun x => entryOfA x h
  | .range t x => ap1R (ev x) fun x => rangeMapA P t x h
  | .convert s d x => ap1R (ev x) fun x => toStrA P s d x h
  | .call c => match c.callee with
    | .builtin .append => match c.argTypes.toList, c.args.toList with
      | [sT, xT], [s, x] => ap1R (ev s) fun s => ap1R (ev x) fun x => appendA P sT xT s x h
      | _, _ => none
    | .builtin .clear => match c.argTypes.toList, c.args.toList with
      | [t], [x] => ap1R (ev x) fun x => clearA P t x h
      | _, _ => none
    | .value (.func f) => bif Nat.beq f ib then
        match c.args.toList with
        | [a, b] => ap1R (ev a) fun a => ap1R (ev b) fun b => ibA a b
        | _ => none
      else none
    | _ => none
  | _ => none

theorem ap1R_some {o : Option AV} {f : AV → Option ApR} {r : ApR} (h : ap1R o f = some r) : ∃ u, o = some u ∧ f u = some r := by
  cases o with
  | none => cases h
  | some u => exact ⟨u, rfl, h⟩

/-- An operation has gone through, with a value (or with none). -/
def WentBy (r : Result Next) (v : Value) (w : World) : Prop := r = .ok (.value v) w ∨ (r = .ok .skip w ∧ v = undef)

theorem eff_run {P : Program} {ib : Nat} (hib : IbOk P ib) {σ : Sg} {h : Hp} {nx : Nat} {w : World} (hs : SR σ h nx w) {ev : Ev} {ρ : Operand → Value} (hr : ER σ ev ρ)
    (hρ : ∀ f, ρ (.func f) = .func (.func f) #[] #[]) {o : Oper} {r : ApR} (hu : effOp P ib ev o.op h = some r) :
    ∃ σ' v' w', WentBy ((execOp ρ o).run P w) v' w' ∧ SR σ' (r.hp h nx) (r.nx nx) w' ∧ Fr nx σ w σ' w' ∧ VR σ' (r.val nx) v' := by
  obtain ⟨dst, op, typ, pos, after, guard⟩ := o
  have lift : ∀ {s : Sem Value}, (∃ σ' v' w', s.run P w = .ok v' w' ∧ SR σ' (r.hp h nx) (r.nx nx) w' ∧ Fr nx σ w σ' w' ∧ VR σ' (r.val nx) v') →
      ∃ σ' v' w', WentBy ((do pure (Next.value (← s)) : Sem Next).run P w) v' w' ∧ SR σ' (r.hp h nx) (r.nx nx) w' ∧ Fr nx σ w σ' w' ∧ VR σ' (r.val nx) v' := by
    rintro s ⟨σ', v', w', e, h1, h2, h3⟩
    exact ⟨σ', v', w', .inl (by simp [e]), h1, h2, h3⟩
  have liftu : ∀ {s : Sem Unit}, (∃ w', s.run P w = .ok () w' ∧ SR σ (r.hp h nx) (r.nx nx) w' ∧ Fr nx σ w σ w' ∧ r.val nx = .tup []) →
      ∃ σ' v' w', WentBy ((do s; pure Next.skip : Sem Next).run P w) v' w' ∧ SR σ' (r.hp h nx) (r.nx nx) w' ∧ Fr nx σ w σ' w' ∧ VR σ' (r.val nx) v' := by
    rintro s ⟨w', e, h1, h2, h3⟩
    exact ⟨σ, undef, w', .inr ⟨by simp [e], rfl⟩, h1, h2, by rw [h3]; exact .tup .nil⟩
  dsimp only at hu
  unfold effOp at hu
  split at hu
  · obtain ⟨a, ea, hu⟩ := ap1R_some hu
    obtain ⟨b, eb, hu⟩ := ap1R_some hu
    unfold storeR at hu
    split at hu
    · cases hu
    · rename_i b' x' hst
      cases hu
      obtain ⟨w', h1, h2, h3⟩ := store_run (P := P) hs hst (hr _ _ ea) (hr _ _ eb)
      exact liftu ⟨w', h1, h2, h3, rfl⟩
  · obtain ⟨a, ea, hu⟩ := ap1R_some hu
    obtain ⟨b, eb, hu⟩ := ap1R_some hu
    obtain ⟨c, ec, hu⟩ := ap1R_some hu
    exact liftu (upd_run (P := P) hs hu (hr _ _ ea) (hr _ _ eb) (hr _ _ ec))
  · obtain ⟨a, ea, hu⟩ := ap1R_some hu
    obtain ⟨b, eb, hu⟩ := ap1R_some hu
    obtain ⟨c, ec, hu⟩ := ap1R_some hu
    exact liftu (upd_run (P := P) hs hu (hr _ _ ea) (hr _ _ eb) (hr _ _ ec))
  · obtain ⟨a, ea, hu⟩ := ap1R_some hu
    obtain ⟨b, eb, hu⟩ := ap1R_some hu
    obtain ⟨v', w', h1, h2, h3, h4⟩ := entry_run (P := P) hs hu (hr _ _ ea) (hr _ _ eb)
    exact lift ⟨σ, v', w', h1, h2, h3, h4⟩
  · obtain ⟨a, ea, hu⟩ := ap1R_some hu
    obtain ⟨b, eb, hu⟩ := ap1R_some hu
    obtain ⟨c, ec, hu⟩ := ap1R_some hu
    exact liftu (entSt_run (P := P) hs hu (hr _ _ ea) (hr _ _ eb) (hr _ _ ec))
  · rename_i it isStr
    obtain ⟨a, ea, hu⟩ := ap1R_some hu
    cases isStr
    · obtain ⟨v', w', h1, h2, h3, h4⟩ := nextMap_run (P := P) hs hu (hr _ _ ea) typ
      exact lift ⟨σ, v', w', h1, h2, h3, h4⟩
    · obtain ⟨v', w', h1, h2, h3, h4⟩ := nextStr_run (P := P) hs hu (hr _ _ ea) typ
      exact lift ⟨σ, v', w', h1, h2, h3, h4⟩
  · obtain ⟨a, ea, hu⟩ := ap1R_some hu
    obtain ⟨v', w', h1, h2, h3, h4⟩ := entryOf_run (P := P) hs hu (hr _ _ ea)
    exact lift ⟨σ, v', w', h1, h2, h3, h4⟩
  · -- range over a map
    rename_i t x
    obtain ⟨a, ea, hu⟩ := ap1R_some hu
    have hx := hr _ _ ea
    refine lift (s := Instr.range t (ρ x)) ?_
    unfold rangeMapA at hu
    split at hu
    · rename_i i b hi
      have hun := ty_run hi w
      generalize ρ x = xv at hx
      cases hx with | map hσ =>
      rename_i c
      split at hu
      · rename_i kt et ver es clock hd hb
        rw [hd] at hun
        obtain ⟨h0, c', es', h1, h2, h3⟩ := hs.blk b _ hb
        rw [hσ] at h1
        cases h1
        have hget := getMap_run (P := P) h2 (by simp)
        cases hu
        have hfree : ∀ g, σ nx g = none := hs.nm nx (Nat.le_refl _)
        refine ⟨_, _, _, ?_, hs.alloc (n := nx) hfree (.mapIter (some c) clock ⟨[]⟩ clock) ⟨0, .miter b clock [] clock⟩ 0 0 (nx + 1) (by omega) (by omega) ?_, Fr.alloc hfree (Nat.le_refl _) _ _ _, .it (Sg.add_same _ _ _ _)⟩
        · simp [Instr.range, hun, hget, newW]
        · exact ⟨fresh_other hfree _, w.heap.size, c, Sg.add_same _ _ _ _, push_new _ _, Sg.le_add (hfree 0) _ _ _ hσ⟩
      · cases hu
    · cases hu
  · obtain ⟨a, ea, hu⟩ := ap1R_some hu
    exact lift (toStr_run (P := P) hs hu (hr _ _ ea))
  · rename_i c
    obtain ⟨callee, args, argTypes⟩ := c
    dsimp only at hu
    split at hu
    · split at hu
      · rename_i sT xT s x hat har
        obtain ⟨a, ea, hu⟩ := ap1R_some hu
        obtain ⟨b, eb, hu⟩ := ap1R_some hu
        have e1 : argTypes = #[sT, xT] := by apply Array.ext'; simp [hat]
        have e2 : args = #[s, x] := by apply Array.ext'; simp [har]
        subst e1 e2
        obtain ⟨σ', v', w', h1, h2, h3, h4⟩ := append_run (P := P) hs hu (hr _ _ ea) (hr _ _ eb) typ
        exact ⟨σ', v', w', .inl (by simp [execOp, resolve, invoke, builtin, h1]), h2, h3, h4⟩
      · cases hu
    · split at hu
      · rename_i t x hat har
        obtain ⟨a, ea, hu⟩ := ap1R_some hu
        have e1 : argTypes = #[t] := by apply Array.ext'; simp [hat]
        have e2 : args = #[x] := by apply Array.ext'; simp [har]
        subst e1 e2
        obtain ⟨w', h1, h2, h3, h4⟩ := clear_run (P := P) hs hu (hr _ _ ea) typ
        exact ⟨σ, .tuple #[], w', .inl (by simp [execOp, resolve, invoke, builtin, h1]), h2, h3, by rw [h4]; exact .tup .nil⟩
      · cases hu
    · rename_i f
      rw [Bool.cond_eq_ite] at hu
      split at hu
      · rename_i hf
        simp only [nat_beq, decide_eq_true_eq] at hf
        subst hf
        split at hu
        · rename_i a b har
          obtain ⟨va, ea, hu⟩ := ap1R_some hu
          obtain ⟨vb, eb, hu⟩ := ap1R_some hu
          have e2 : args = #[a, b] := by apply Array.ext'; simp [har]
          subst e2
          have ha := hr _ _ ea
          have hb := hr _ _ eb
          unfold ibA at hu
          split at hu
          · rename_i l c _
            rw [Bool.cond_eq_ite] at hu
            split at hu
            · rename_i hc
              rw [nat_blt] at hc
              simp only [decide_eq_true_eq] at hc
              cases hu
              generalize hav : ρ a = av at ha
              generalize hbv : ρ b = bv at hb
              cases ha with | str s =>
              cases hb
              obtain ⟨fn, f1, f2, f3, f4, f5⟩ := hib.ok
              have hrun := run_callFunc_extern f1 f2 f3 f4 f5 #[.string s, .int .u8 (Int.ofNat c)] w
              rw [run_indexByte_string] at hrun
              simp only [Result.andThen_ok] at hrun
              refine ⟨σ, .int .i64 (firstIdx s (Int.ofNat c).toNat.toUInt8), w, .inl ?_, hs, Fr.refl _ _ _, ?_⟩
              · rw [← hrun]
                simp [execOp, resolve, hρ, Deferred.ofValue, invoke, hav, hbv]
              · have e1 : (UInt8.ofNat c).toNat = c := by simp; omega
                have e2 : firstIdx s (Int.ofNat c).toNat.toUInt8 = idxA (bys s) c := by
                  rw [Lib.firstIdx_eq]
                  show Lib.indexByte s.data.toList (UInt8.ofNat c) = _
                  rw [← idxA_eq, e1]; rfl
                rw [e2]
                exact .int _ _
            · cases hu
          · cases hu
        · cases hu
      · cases hu
    · cases hu
  · cases hu
end Go.Proofs.YtoiojhmfndmflaaGreatDoor.Rex

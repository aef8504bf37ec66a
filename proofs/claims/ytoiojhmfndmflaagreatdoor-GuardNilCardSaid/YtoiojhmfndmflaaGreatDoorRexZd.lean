/-
  Rex, part Zd: a drawn region is what drawX says.
-/
import Derived.Test.YtoiojhmfndmflaaGreatDoorRexZc
namespace Go.Proofs.YtoiojhmfndmflaaGreatDoor.Rex
open Go

/-! ## What stands ahead -/

theorem edMask_bit {acc : List Nat} {i : Nat} : ∀ {es : List Edge}, (edMask acc es).testBit i = true → ∃ e ∈ es, Region.binds .any e = true ∧ (i = e.on ∨ ∃ m, nth acc e.on = some m ∧ m.testBit i = true)
  | [], h => by simp [edMask] at h
  | e :: es, h => by
    unfold edMask at h
    cases hb : Region.binds .any e with
    | false =>
      rw [hb, cond_false] at h
      obtain ⟨e', h1, h2⟩ := edMask_bit h
      exact ⟨e', .tail _ h1, h2⟩
    | true =>
      rw [hb, cond_true, Nat.testBit_or, Nat.testBit_or, Bool.or_eq_true, Bool.or_eq_true] at h
      rcases h with h | h | h
      · rw [Nat.testBit_two_pow] at h
        exact ⟨e, .head _, hb, .inl (by simpa using Eq.symm (of_decide_eq_true h))⟩
      · cases hm : nth acc e.on with
        | none => rw [hm] at h; simp at h
        | some m => rw [hm] at h; exact ⟨e, .head _, hb, .inr ⟨m, hm, h⟩⟩
      · obtain ⟨e', h1, h2⟩ := edMask_bit h
        exact ⟨e', .tail _ h1, h2⟩

theorem masks_spec : ∀ {l : List Oper} {acc ms : List Nat}, masks acc l = some ms → (∀ i, i < acc.length → ms[i]? = acc[i]?) ∧ ms.length = acc.length + l.length ∧
    ∀ j o, l[j]? = some o → (∀ e ∈ o.after.toList, Region.binds .any e = true → e.on < acc.length + j) ∧
      ∀ m, ms[acc.length + j]? = some m → ∀ i, m.testBit i = true → ∃ e ∈ o.after.toList, Region.binds .any e = true ∧ (i = e.on ∨ ∃ m', ms[e.on]? = some m' ∧ m'.testBit i = true)
  | [], acc, ms, h => by cases h; exact ⟨fun _ _ => rfl, by simp, fun j o e => by simp at e⟩
  | o :: l, acc, ms, h => by
    unfold masks at h
    rw [Bool.cond_eq_ite] at h
    split at h
    · rename_i hall
      obtain ⟨h1, h2, h3⟩ := masks_spec h
      have hk : ∀ e ∈ o.after.toList, Region.binds .any e = true → e.on < acc.length := by
        intro e he hb
        have := List.all_eq_true.1 hall e he
        simp only [hb, Bool.not_true, Bool.false_or, nat_blt, decide_eq_true_eq] at this
        exact this
      have hle : (acc ++ [edMask acc o.after.toList]).length = acc.length + 1 := by simp
      refine ⟨fun i hi => ?_, by rw [h2, hle]; simp; omega, fun j o' e => ?_⟩
      · rw [h1 i (by omega), List.getElem?_append_left hi]
      · cases j with
        | zero =>
          simp only [List.getElem?_cons_zero, Option.some.injEq] at e
          subst e
          refine ⟨fun e he hb => by have := hk e he hb; omega, fun m hm i hi => ?_⟩
          rw [Nat.add_zero, h1 acc.length (by omega), List.getElem?_append_right (Nat.le_refl _)] at hm
          simp only [Nat.sub_self, List.getElem?_cons_zero, Option.some.injEq] at hm
          subst hm
          obtain ⟨e, he, hb, h4⟩ := edMask_bit hi
          refine ⟨e, he, hb, h4.imp id fun ⟨m', h5, h6⟩ => ⟨m', ?_, h6⟩⟩
          rw [nth_eq] at h5
          have := hk e he hb
          rw [h1 e.on (by omega), List.getElem?_append_left this]; exact h5
        | succ j =>
          simp only [List.getElem?_cons_succ] at e
          obtain ⟨h4, h5⟩ := h3 j o' e
          rw [hle] at h4 h5
          refine ⟨fun e he hb => by have := h4 e he hb; omega, fun m hm => h5 m (by rw [← hm]; congr 1; omega)⟩
    · cases h

theorem ord_ok {ops : Array Oper} {ms : List Nat} (h : masks [] ops.toList = some ms) : OrdOk ops (fun i j => ordB ms i j = true) := by
  obtain ⟨_, h2, h3⟩ := masks_spec h
  simp only [List.length_nil, Nat.zero_add] at h2 h3
  refine ⟨fun j o ho e he hb => (h3 j o (by simpa using ho)).1 e (by simpa using he) hb, fun i j hij => ?_⟩
  unfold ordB at hij
  rw [nth_eq] at hij
  split at hij
  · cases hij
  · rename_i m hm
    have hlt : j < ms.length := (List.getElem?_eq_some_iff.1 hm).1
    obtain ⟨o, ho⟩ := oper_at (ops := ops) (j := j) (by simpa [h2] using hlt)
    obtain ⟨e, he, hb, h4⟩ := (h3 j o (by simpa using ho)).2 m hm i hij
    refine ⟨o, ho, e, by simpa using he, hb, h4.imp id fun ⟨m', h5, h6⟩ => ?_⟩
    unfold ordB
    rw [nth_eq, h5]; exact h6

/-! ## The looks -/

theorem drun_spec {P : Program} {ib : Nat} {cf : CallF} {rf : RndF} {rb : Bool} {ops : Array Oper} : ∀ {l : List Oper} {s : DSt} {es : List Ent} {f : DSt}, drun P ib cf rf rb ops l s = some (es, f) →
    es.length = l.length ∧ (match es[0]? with | some e => e.s | none => f) = s ∧
    ∀ j o, l[j]? = some o → ∃ e, es[j]? = some e ∧ e.o = o ∧ dstep P ib cf rf rb ops o e.s = some (e.z, e.s1) ∧ (match es[j + 1]? with | some e' => e'.s | none => f) = e.s1
  | [], s, es, f, h => by cases h; exact ⟨rfl, rfl, fun j o e => by simp at e⟩
  | o :: l, s, es, f, h => by
    unfold drun at h
    split at h
    · cases h
    · rename_i z s' hst
      split at h
      · cases h
      · rename_i es' f' hr
        cases h
        obtain ⟨h1, h2, h3⟩ := drun_spec hr
        refine ⟨by simp [h1], rfl, fun j o' e => ?_⟩
        cases j with
        | zero =>
          simp only [List.getElem?_cons_zero, Option.some.injEq] at e
          subst e
          exact ⟨_, rfl, rfl, hst, by simpa using h2⟩
        | succ j =>
          simp only [List.getElem?_cons_succ] at e
          obtain ⟨e', h4, h5⟩ := h3 j o' e
          exact ⟨e', by simpa using h4, by simpa using h5⟩

theorem looks1_spec {ms : List Nat} {ops : Array Oper} {x : Ent} {i : Nat} : ∀ {l : List Ent} {j : Nat}, looks1 ms ops x i j l = true → ∀ n y, l[n]? = some y → clash ops x y = true → ordB ms i (j + n) = true
  | [], j, h, n, y, e, _ => by simp at e
  | z :: l, j, h, n, y, e, hc => by
    simp only [looks1, Bool.and_eq_true, Bool.or_eq_true, Bool.not_eq_true'] at h
    cases n with
    | zero =>
      simp only [List.getElem?_cons_zero, Option.some.injEq] at e
      subst e
      exact h.1.resolve_left (by rw [hc]; simp)
    | succ n =>
      simp only [List.getElem?_cons_succ] at e
      have := looks1_spec h.2 n y e hc
      rw [← this]; congr 1; omega

theorem looksA_spec {ms : List Nat} {ops : Array Oper} : ∀ {l : List Ent} {i : Nat}, looksA ms ops i l = true → ∀ m n x y, m < n → l[m]? = some x → l[n]? = some y → clash ops x y = true → ordB ms (i + m) (i + n) = true
  | [], i, h, m, n, x, y, _, e, _, _ => by simp at e
  | z :: l, i, h, m, n, x, y, hmn, e, e', hc => by
    simp only [looksA, Bool.and_eq_true] at h
    cases n with
    | zero => omega
    | succ n =>
      simp only [List.getElem?_cons_succ] at e'
      cases m with
      | zero =>
        simp only [List.getElem?_cons_zero, Option.some.injEq] at e
        subst e
        have := looks1_spec h.1 n y e' hc
        rw [← this]; congr 1; omega
      | succ m =>
        simp only [List.getElem?_cons_succ] at e
        have := looksA_spec h.2 m n x y (by omega) e e' hc
        rw [← this]; congr 1 <;> omega

theorem mayB_of {ms : List Nat} {j q : Nat} : ∀ {l : List Ent} {i : Nat}, (∀ n e, l[n]? = some e → e.z.isHeavy = true → (ordB ms (i + n) j = true → i + n < q) ∧ (ordB ms j (i + n) = true → q ≤ i + n)) → mayB ms j q i l = true
  | [], _, _ => rfl
  | e :: l, i, h => by
    unfold mayB
    have h0 := h 0 e rfl
    simp only [Nat.add_zero] at h0
    have h1 := mayB_of (ms := ms) (j := j) (q := q) (l := l) (i := i + 1) fun n e' he' hh => by
      have := h (n + 1) e' (by simpa using he') hh
      rw [show i + (n + 1) = i + 1 + n from by omega] at this
      exact this
    rw [h1, Bool.and_true]
    cases hh : e.z.isHeavy
    · rfl
    · obtain ⟨h2, h3⟩ := h0 hh
      cases ha : ordB ms i j <;> cases hb : ordB ms j i <;> simp_all

theorem sameSeg_spec {q j : Nat} : ∀ {l : List Ent} {i : Nat}, sameSeg q j i l = true → ∀ n e, l[n]? = some e → e.z.isHeavy = true → i + n < q ∨ j ≤ i + n
  | [], _, _, n, e, he, _ => by simp at he
  | x :: l, i, h, n, e, he, hh => by
    simp only [sameSeg, Bool.and_eq_true, Bool.or_eq_true, Bool.not_eq_true', nat_blt, decide_eq_true_eq, Nat.ble_eq] at h
    cases n with
    | zero =>
      simp only [List.getElem?_cons_zero, Option.some.injEq] at he
      subst he
      rcases h.1 with (h1 | h1) | h1
      · rw [hh] at h1; cases h1
      · exact .inl h1
      · exact .inr h1
    | succ n =>
      simp only [List.getElem?_cons_succ] at he
      have := sameSeg_spec h.2 n e he hh
      omega

theorem sideB_spec {bs : List Nat} {q j : Nat} : ∀ {l : List Ent} {i : Nat}, sideB bs q j i l = true → ∀ n e b, l[n]? = some e → e.z = .store b → b ∈ bs → (i + n < q ↔ i + n < j)
  | [], _, _, n, e, b, he, _, _ => by simp at he
  | x :: l, i, h, n, e, b, he, hz, hb => by
    simp only [sideB, Bool.and_eq_true] at h
    cases n with
    | zero =>
      simp only [List.getElem?_cons_zero, Option.some.injEq] at he
      subst he
      have h1 := h.1
      rw [hz] at h1
      simp only [mem_any hb, Bool.not_true, Bool.false_or, beq_iff_eq, nat_blt, decide_eq_decide] at h1
      simpa using h1
    | succ n =>
      simp only [List.getElem?_cons_succ] at he
      have := sideB_spec h.2 n e b he hz hb
      rw [show i + (n + 1) = i + 1 + n from by omega]; exact this

theorem readAll_spec {P : Program} {ms : List Nat} {ops : Array Oper} {all : List Ent} {x : Ent} {v : AV} {bs : List Nat} {j : Nat} : ∀ {l : List Ent} {q : Nat}, readAll P ms ops all x v bs j q l = true →
    ∀ n e, l[n]? = some e → e.z.isHeavy = true → readAt P ms ops all x v bs j (q + n + 1) e.s1.h = true
  | [], _, _, n, e, he, _ => by simp at he
  | y :: l, q, h, n, e, he, hh => by
    simp only [readAll, Bool.and_eq_true, Bool.or_eq_true, Bool.not_eq_true'] at h
    cases n with
    | zero =>
      simp only [List.getElem?_cons_zero, Option.some.injEq] at he
      subst he
      exact h.1.resolve_left (by rw [hh]; simp)
    | succ n =>
      simp only [List.getElem?_cons_succ] at he
      have := readAll_spec h.2 n e he hh
      rw [show q + (n + 1) + 1 = q + 1 + n + 1 from by omega]; exact this

theorem looksR_spec {P : Program} {ms : List Nat} {ops : Array Oper} {all : List Ent} {h0 : Hp} : ∀ {l : List Ent} {j : Nat}, looksR P ms ops all h0 j l = true →
    ∀ n x v bs, l[n]? = some x → x.z = .read v bs → readAt P ms ops all x v bs (j + n) 0 h0 = true ∧ readAll P ms ops all x v bs (j + n) 0 all = true
  | [], _, _, n, x, v, bs, he, _ => by simp at he
  | y :: l, j, h, n, x, v, bs, he, hz => by
    simp only [looksR, Bool.and_eq_true] at h
    cases n with
    | zero =>
      simp only [List.getElem?_cons_zero, Option.some.injEq] at he
      subst he
      have h1 := h.1
      rw [hz] at h1
      simpa using h1
    | succ n =>
      simp only [List.getElem?_cons_succ] at he
      have := looksR_spec h.2 n x v bs he hz
      rw [show j + (n + 1) = j + 1 + n from by omega]; exact this

def tAt (es : List Ent) (f : DSt) (j : Nat) : DSt := match es[j]? with | some e => e.s | none => f
def zAt (es : List Ent) (j : Nat) : Rz := match es[j]? with | some e => e.z | none => .val

theorem readAt_spec {P : Program} {ms : List Nat} {ops : Array Oper} {all : List Ent} {x : Ent} {v : AV} {bs : List Nat} {j q : Nat} {h : Hp} (hr : readAt P ms ops all x v bs j q h = true)
    (hm : mayB ms j q 0 all = true) : (q ≤ j ∧ sameSeg q j 0 all = true) ∨ (sideB bs q j 0 all = true ∧ readOp P (evA (see ops x.o x.s.a.tm)) x.o.op (cutH h bs) = some v) := by
  unfold readAt at hr
  simp only [hm, Bool.not_true, Bool.or_false, Bool.or_eq_true, Bool.and_eq_true, Nat.ble_eq] at hr
  refine hr.imp id fun ⟨h1, h2⟩ => ⟨h1, ?_⟩
  split at h2
  · cases h2
  · rename_i v' hv; rw [hv, AV.eqb_eq h2]

theorem txt_ok {P : Program} {ib : Nat} {cf : CallF} {rf : RndF} {rb : Bool} {ops : Array Oper} {s f : DSt} {es : List Ent} {ms : List Nat} (hd : drun P ib cf rf rb ops ops.toList s = some (es, f))
    (hA : looksA ms ops 0 es = true) (hR : looksR P ms ops es s.h 0 es = true) :
    Txt P ib cf rf rb ops (tAt es f) (zAt es) (fun i j => ordB ms i j = true) ∧ tAt es f 0 = s ∧ tAt es f ops.size = f := by
  obtain ⟨hl, h0, hs⟩ := drun_spec hd
  have hl : es.length = ops.size := by simpa using hl
  have ent : ∀ j o, ops[j]? = some o → ∃ e, es[j]? = some e ∧ e = ⟨o, zAt es j, tAt es f j, tAt es f (j + 1)⟩ ∧ dstep P ib cf rf rb ops o (tAt es f j) = some (zAt es j, tAt es f (j + 1)) := by
    intro j o ho
    obtain ⟨e, h1, h2, h3, h4⟩ := hs j o (by simpa using ho)
    have hz : zAt es j = e.z := by simp [zAt, h1]
    have ht : tAt es f j = e.s := by simp [tAt, h1]
    have ht1 : tAt es f (j + 1) = e.s1 := h4
    refine ⟨e, h1, ?_, by rw [hz, ht, ht1]; exact h3⟩
    rw [hz, ht, ht1, ← h2]
  have heavyE : ∀ i, i < ops.size → zAt es i = .heavy → ∃ e, es[i]? = some e ∧ e.z.isHeavy = true ∧ e.s1 = tAt es f (i + 1) := by
    intro i hi hz
    obtain ⟨o, ho⟩ := oper_at hi
    obtain ⟨e, h1, h2, _⟩ := ent i o ho
    exact ⟨e, h1, by rw [h2]; show (zAt es i).isHeavy = true; rw [hz]; rfl, by rw [h2]⟩
  have zHeavy : ∀ i e, es[i]? = some e → e.z.isHeavy = true → i < ops.size ∧ zAt es i = .heavy := by
    intro i e he hh
    have hi : i < es.length := (List.getElem?_eq_some_iff.1 he).1
    refine ⟨by omega, ?_⟩
    simp only [zAt, he]
    cases hz : e.z <;> rw [hz] at hh <;> first | rfl | cases hh
  refine ⟨⟨fun j o ho => ?_, fun i j oi oj hij hoi hoj hc => ?_, fun j o v bs q ho hz hq hh => ?_⟩, h0, ?_⟩
  · obtain ⟨e, _, _, h3⟩ := ent j o ho
    exact dstep_did _ _ _ _ _ _ h3
  · obtain ⟨x, h1, h2, _⟩ := ent i oi hoi
    obtain ⟨y, h3, h4, _⟩ := ent j oj hoj
    have := looksA_spec hA i j x y hij h1 h3 (by rw [h2, h4]; exact hc)
    simpa using this
  · obtain ⟨x, h1, h2, _⟩ := ent j o ho
    obtain ⟨r1, r2⟩ := looksR_spec hR j x v bs h1 (by rw [h2]; exact hz)
    simp only [Nat.zero_add] at r1 r2
    have hm : mayB ms j q 0 es = true := mayB_of fun n e he hev => by
      obtain ⟨hn, hzn⟩ := zHeavy n e he hev
      simpa using hh n hn hzn
    have hrd : readAt P ms ops es x v bs j q (tAt es f q).h = true := by
      rcases hq with rfl | ⟨i, rfl, hi, hzi⟩
      · rw [show tAt es f 0 = s from h0]; exact r1
      · obtain ⟨e, h3, h4, h5⟩ := heavyE i hi hzi
        have := readAll_spec r2 i e h3 h4
        rw [h5] at this
        simpa using this
    rcases readAt_spec hrd hm with ⟨h3, h4⟩ | ⟨h3, h4⟩
    · refine .inl ⟨h3, fun i hi hij hzi => ?_⟩
      have hi' := lt_ops ho
      obtain ⟨e, h5, h6, _⟩ := heavyE i (by omega) hzi
      have := sameSeg_spec h4 i e h5 h6
      omega
    · refine .inr ⟨fun i b hi hzi hb => ?_, by rw [h2] at h4; exact h4⟩
      obtain ⟨oi, hoi⟩ := oper_at hi
      obtain ⟨e, h5, h6, _⟩ := ent i oi hoi
      have := sideB_spec h3 i e b h5 (by rw [h6]; exact hzi) hb
      simpa using this
  · have : es[ops.size]? = none := List.getElem?_eq_none (by omega)
    simp [tAt, this]

/-! ## The beginning and the end -/

theorem cut_eq {σ : Sg} {n m : Nat} (h : ∀ b, n ≤ b → ∀ g, σ b g = none) (hm : n ≤ m) : cut σ m = σ := by
  funext b g
  rcases Nat.lt_or_ge b m with h1 | h1
  · rw [cut_lt h1]
  · rw [cut_ge h1, h b (by omega) g]

section
variable {P : Program} {ib : Nat} {cf : CallF} {rf : RndF} {ops : Array Oper} {T : Nat → DSt} {Z : Nat → Rz} {ord : Nat → Nat → Prop}

theorem Lk.start {fn : FuncId} {rnd : Option Nat} {x : Cx} {rb : Bool} (X : Txt P ib cf rf rb ops T Z ord) {σ : Sg} {w : World} {ca : Act} {cs0 cs : List Frame}
    (H : At σ (T 0).h (T 0).n w fn rnd (T 0).a x ca cs0 cs) {D : Nat → Prop} (hD : ∀ i, ¬ D i) : Lk ops T Z σ w cs0 D σ 0 w ca cs := by
  have hc : ∀ m, (T 0).n ≤ m → cut σ m = σ := fun m hm => cut_eq H.sr.nm hm
  have hb : ∀ b g r, σ b g = some r → b < (T 0).n := fun b g r e => by
    rcases Nat.lt_or_ge b (T 0).n with h1 | h1
    · exact h1
    · rw [H.sr.nm b h1 g] at e; cases e
  have hmono : ∀ j, j ≤ ops.size → (T 0).n ≤ (T j).n := fun j hj => X.n_mono (Nat.zero_le _) hj
  refine ⟨.inl rfl, fun i hi hz => ⟨fun h => (hD i h).elim, fun h => by omega⟩, fun b y hy => H.sr.bd hy, fun b g r e => .inl (hb b g r e), H.sr.inj, H.sr.lt,
    fun b j y h1 h2 h3 h4 h5 h6 => ?_, fun i y j z h1 h2 h3 h4 h5 => (hD i h5).elim, fun t j v hj hw hv => ?_, H.ac.tm.1, ?_, ?_, rfl, Fr.refl _ _ _⟩
  · rw [hc _ (hmono j h3)]
    have : (T j).h.at b = (T 0).h.at b := X.hpc (Nat.zero_le _) h3 h1 h4 fun i h7 h8 h9 => hD i ((h5 i (by omega) h9).2 h8)
    rw [this] at h6
    exact H.sr.blk b y h6
  · rw [Nat.max_zero, hc _ (hmono j hj)]
    have : (T j).a.tm.at t = (T 0).a.tm.at t := X.tmc (Nat.zero_le _) hj fun i o h7 h8 h9 h10 => hD i ((hw i o h9 h10).2 h8)
    rw [this] at hv
    exact H.ac.tm.2 t v hv
  · rw [hc _ (Nat.le_refl _)]; exact H.ac.df
  · rw [hc _ (Nat.le_refl _)]; exact H.up

theorem Lk.fin {fn : FuncId} {rnd : Option Nat} {x : Cx} {rb : Bool} (X : Txt P ib cf rf rb ops T Z ord) {σ0 σ : Sg} {w0 w : World} {q : Nat} {ca : Act} {cs0 cs : List Frame} {D : Nat → Prop}
    (L : Lk ops T Z σ0 w0 cs0 D σ q w ca cs) (hD : ∀ i, i < ops.size → D i) (hxf : x.fn = fn) (hxr : RdR σ0 rnd x.rnd) (hxk : x.kind = kdOf (T 0).a.up) :
    At σ (T ops.size).h (T ops.size).n w fn rnd (T ops.size).a x ca cs0 cs ∧ (T ops.size).a.up.isSome = (T 0).a.up.isSome := by
  have hq := L.q_le
  have hsg : Sgm Z q ops.size := fun i h1 h2 h3 => by have := (L.hv i h2 h3).1 (hD i h2); omega
  have hc : cut σ (T ops.size).n = σ := by
    refine cut_eq (n := (T ops.size).n) (fun b hb g => ?_) (Nat.le_refl _)
    cases e : σ b g with
    | none => rfl
    | some r =>
      exfalso
      rcases L.nm b g r e with h1 | ⟨i, y, h1, h2, h3, h4, h5⟩
      · have := X.n_mono hq (Nat.le_refl _); omega
      · have := X.n_alloc h2 h3
        have := X.n_mono (i := i + 1) (j := ops.size) h2 (Nat.le_refl _)
        omega
  have hs : SR (cut σ (T ops.size).n) (T ops.size).h (T ops.size).n w := L.sr fun b y hy =>
    L.blk hq (Nat.le_refl _) hsg X (fun i hi _ => ⟨fun _ => hi, fun _ => hD i hi⟩) (fun i y' h1 h2 _ _ => hD i h2) hy
  rw [hc] at hs
  obtain ⟨e1, e2⟩ := X.same hq (Nat.le_refl _) hsg
  have hle : Sg.le (cut σ (T q).n) σ := cut_le _ _
  have hup : (T ops.size).a.up.isSome = (T 0).a.up.isSome := by rw [e2]; exact L.us
  refine ⟨⟨hs, ⟨⟨by rw [L.sz, X.nt (Nat.le_refl _)], fun t v hv => ?_⟩, by rw [e1]; exact L.df.mono hle⟩, by rw [e2]; exact L.up.mono hle, hxf, hxr.mono L.fr.le, by rw [hxk]; exact kdOf_congr hup.symm⟩, hup⟩
  have := L.tm t ops.size v (Nat.le_refl _) (fun i o ho _ => ⟨fun _ => lt_ops ho, fun _ => hD i (lt_ops ho)⟩) hv
  rw [Nat.max_eq_left hq, hc] at this
  exact this
end

/-- **A REGION THAT DRAWS ITS ORDER IS WHAT THE EXECUTOR SAYS.** -/
theorem draw_ok {P : Program} {ib : Nat} {cf : CallF} (hm : P.follows .mixedOrders = true) (hib : IbOk P ib) (hcf : CallOk P cf) : DrawOk P (drawX P ib cf) := by
  intro rf hrf fn rnd id ops a h n σ w ca cs0 cs x k H
  unfold drawX
  split
  · trivial
  · rename_i ms hms
    split
    · trivial
    · rename_i es f hd
      rw [Bool.cond_eq_ite]
      split
      · rename_i hlk
        simp only [Bool.and_eq_true, Array.toArray_toList] at hlk hd
        obtain ⟨X, h0, hfin⟩ := txt_ok hd hlk.1 hlk.2
        have H0 : At σ (tAt es f 0).h (tAt es f 0).n { w with drawn := w.drawn + 1 } fn rnd (tAt es f 0).a x ca cs0 cs := by
          rw [h0]
          exact ⟨H.sr.drawn _, H.ac, H.up, H.fn, H.rd, H.kd⟩
        have L0 : Lk ops (tAt es f) (zAt es) σ { w with drawn := w.drawn + 1 } cs0 (fun i => (Array.replicate ops.size false).getD i false = true) σ 0 { w with drawn := w.drawn + 1 } ca cs :=
          Lk.start X H0 fun i h => by
            simp only [Array.getD_eq_getD_getElem?, Array.getElem?_replicate] at h
            split at h <;> cases h
        have hst := st_region_draw (P := P) (x := x) (ca := ca) (k := k) (cs := cs) (w := w) (id := id) (ops := ops)
        simp only [Region.schedule, hm, Bool.true_or, if_true, Region.linearise] at hst
        have hs0 : ∀ b g r, σ b g = some r → b < (tAt es f 0).n := fun b g r e => by
          rcases Nat.lt_or_ge b (tAt es f 0).n with h1 | h1
          · exact h1
          · rw [H0.sr.nm b h1 g] at e; cases e
        obtain ⟨σ', q', w', ca', cs', hsteps, D', hD', L'⟩ := lin_ok hib hcf hrf H.fn H.rd hs0 H0.kd X (ord_ok hms) k ops.size (w.tape w.drawn (.order x.fn id)) _ σ 0 _ ca cs (by simp) (cntU_le _ _)
          (fun j o _ hj => by
            simp only [Array.getD_eq_getD_getElem?, Array.getElem?_replicate] at hj
            split at hj <;> cases hj) L0
        obtain ⟨H', hup⟩ := Lk.fin (x := x) X L' hD' H.fn H.rd H0.kd
        have hnt := X.nt (Nat.le_refl _)
        have hnn := X.n_mono (Nat.zero_le _) (Nat.le_refl _)
        have hfr := L'.fr
        rw [h0] at hup hnt hnn hfr
        rw [hfin] at H' hup hnt hnn
        exact ⟨σ', w', ca', cs', (Fr.drawn (nx := n) (w.drawn + 1)).trans hfr (Nat.le_refl _), hnn, H', hnt, hup, ((Steps.one hst).trans hsteps).trans (.one st_region_end)⟩
      · trivial

/-- **THE CALLS ARE WHAT THE EXECUTOR SAYS, whatever the tape.** -/
theorem run_ok {P : Program} {ib : Nat} (hm : P.follows .mixedOrders = true) (hib : IbOk P ib) (K d : Nat) : CallOk P (callX P ib (drawX P ib) K d) :=
  call_ok hib (fun _ h => draw_ok hm hib h) K d
end Go.Proofs.YtoiojhmfndmflaaGreatDoor.Rex

/-
  Drawn regions with the quiet operations first: masks, looks, what a state of the order that is really drawn shares with the one that is reckoned.
-/
import Derived.Test.YtcpiafgkmakdiaaSxStep3
set_option linter.unusedSectionVars false
set_option linter.unusedVariables false
set_option linter.unusedSimpArgs false
namespace Go.Proofs.Ytcpiafgkmakdiaa.SX
open Go.Conc

/-! ### Masks -/
theorem inM_testBit (m i : Nat) : inM m i = m.testBit i := by
  unfold inM bitOf
  have h : Nat.land m (Nat.pow 2 i) = m &&& 2 ^ i := rfl
  rw [h]
  cases hb : m.testBit i with
  | true =>
    have : m &&& 2 ^ i ≠ 0 := fun e => by
      have := congrArg (fun x => Nat.testBit x i) e
      simp [Nat.testBit_and, hb, Nat.testBit_two_pow_self] at this
    cases hq : Nat.beq (m &&& 2 ^ i) 0 with
    | true => exact absurd (Nat.eq_of_beq_eq_true hq) this
    | false => rfl
  | false =>
    have : m &&& 2 ^ i = 0 := by
      apply Nat.eq_of_testBit_eq
      intro j
      rw [Nat.testBit_and, Nat.zero_testBit]
      by_cases e : i = j
      · subst e; simp [hb]
      · simp [Nat.testBit_two_pow, e]
    rw [this]; rfl

theorem inM_add (m i j : Nat) : inM (addM m i) j = (inM m j || decide (i = j)) := by
  rw [inM_testBit, inM_testBit]
  have : addM m i = m ||| 2 ^ i := rfl
  rw [this, Nat.testBit_or, Nat.testBit_two_pow]

theorem inM_zero (i : Nat) : inM 0 i = false := by rw [inM_testBit]; simp

theorem land_sub {a m : Nat} (h : Nat.beq (Nat.land a m) a = true) {j : Nat} (hj : inM a j = true) : inM m j = true := by
  have e : a &&& m = a := Nat.eq_of_beq_eq_true h
  rw [inM_testBit] at hj ⊢
  have := congrArg (fun x => Nat.testBit x j) e
  simp only [Nat.testBit_and, hj, Bool.true_and] at this
  exact this

theorem sub_land {a m : Nat} (h : ∀ j, inM a j = true → inM m j = true) : Nat.beq (Nat.land a m) a = true := by
  have : a &&& m = a := by
    apply Nat.eq_of_testBit_eq
    intro j
    rw [Nat.testBit_and]
    have := h j
    rw [inM_testBit, inM_testBit] at this
    cases ha : a.testBit j with
    | false => rfl
    | true => rw [this ha]; rfl
  have h2 : Nat.land a m = a := this
  rw [h2]
  exact Nat.beq_refl a

theorem inM_pred {l : List Edge} {j : Nat} : inM (predMask l) j = true ↔ ∃ e ∈ l, Region.binds .any e = true ∧ e.on = j := by
  induction l with
  | nil => simp [predMask, inM_zero]
  | cons e l ih =>
    unfold predMask
    cases hb : Region.binds .any e with
    | true =>
      simp only [inM_add, Bool.or_eq_true, ih, decide_eq_true_eq, List.mem_cons]
      constructor
      · rintro (⟨x, hx, a, b⟩ | h)
        · exact ⟨x, .inr hx, a, b⟩
        · exact ⟨e, .inl rfl, hb, h⟩
      · rintro ⟨x, rfl | hx, a, b⟩
        · exact .inr b
        · exact .inl ⟨x, hx, a, b⟩
    | false =>
      simp only [ih, List.mem_cons]
      constructor
      · rintro ⟨x, hx, a, b⟩; exact ⟨x, .inr hx, a, b⟩
      · rintro ⟨x, rfl | hx, a, b⟩
        · rw [hb] at a; cases a
        · exact ⟨x, hx, a, b⟩

def infoAt (ops : Array Oper) (i : Nat) (o : Oper) : Info := (i, o, predMask o.after.toList, quietOp o)

theorem mem_infosFrom {l : List Oper} : ∀ {n : Nat} {x : Info}, x ∈ infosFrom n l ↔ ∃ i o, l[i]? = some o ∧ x = (n + i, o, predMask o.after.toList, quietOp o) := by
  induction l with
  | nil => intro n x; simp [infosFrom]
  | cons o l ih =>
    intro n x
    simp only [infosFrom, List.mem_cons, ih]
    constructor
    · rintro (rfl | ⟨i, o', h, rfl⟩)
      · exact ⟨0, o, rfl, rfl⟩
      · exact ⟨i + 1, o', by simpa using h, by rw [show n + 1 + i = n + (i + 1) by omega]⟩
    · rintro ⟨i, o', h, rfl⟩
      cases i with
      | zero => simp at h; subst h; exact .inl rfl
      | succ i => exact .inr ⟨i, o', by simpa using h, by rw [show n + 1 + i = n + (i + 1) by omega]⟩

theorem mem_infos {ops : Array Oper} {x : Info} : x ∈ infosOf ops ↔ ∃ i o, ops[i]? = some o ∧ x = (i, o, predMask o.after.toList, quietOp o) := by
  unfold infosOf
  rw [mem_infosFrom]
  simp

/-- The mask says the set. -/
def Cons (s : List Nat) (m : Nat) : Prop := ∀ i, inM m i = true ↔ i ∈ s

theorem Cons.add {s : List Nat} {m i : Nat} (h : Cons s m) : Cons (i :: s) (addM m i) := fun j => by
  rw [inM_add, Bool.or_eq_true, h j, decide_eq_true_eq, List.mem_cons]
  constructor
  · rintro (x | x)
    · exact .inr x
    · exact .inl x.symm
  · rintro (x | x)
    · exact .inr x.symm
    · exact .inl x

theorem cons_nil : Cons [] 0 := fun i => by simp [inM_zero]

theorem ready_iff {ops : Array Oper} {s : List Nat} {i : Nat} : i ∈ readyIn ops s ↔ i ∉ s ∧ ∃ o, ops[i]? = some o ∧ ∀ e ∈ o.after.toList, Region.binds .any e = true → e.on ∈ s := by
  unfold readyIn
  rw [List.mem_filter]
  constructor
  · rintro ⟨h1, h2⟩
    simp only [Bool.and_eq_true, Bool.not_eq_true', List.contains_eq_mem, decide_eq_false_iff_not] at h2
    refine ⟨h2.1, ?_⟩
    have h3 := h2.2
    split at h3
    · rename_i o ho
      refine ⟨o, ho, fun e he hb => ?_⟩
      unfold boundIn at h3
      rw [← Array.all_toList, List.all_eq_true] at h3
      have := h3 e he
      simpa [hb] using this
    · cases h3
  · rintro ⟨h1, o, ho, h2⟩
    refine ⟨List.mem_range.2 (Array.getElem?_eq_some_iff.1 ho).1, ?_⟩
    simp only [Bool.and_eq_true, Bool.not_eq_true', List.contains_eq_mem, decide_eq_false_iff_not]
    refine ⟨h1, ?_⟩
    rw [ho]
    show boundIn s o = true
    unfold boundIn
    rw [← Array.all_toList, List.all_eq_true]
    intro e he
    cases hb : Region.binds .any e with
    | false => rfl
    | true => simpa using h2 e he hb

theorem can_iff {ops : Array Oper} {s : List Nat} {m : Nat} (c : Cons s m) {i : Nat} {o : Oper} (ho : ops[i]? = some o) : canM m (i, o, predMask o.after.toList, quietOp o) = true ↔ i ∈ readyIn ops s := by
  rw [ready_iff]
  unfold canM
  simp only [Bool.and_eq_true, Bool.not_eq_true']
  constructor
  · rintro ⟨h1, h2⟩
    refine ⟨fun hi => ?_, o, ho, fun e he hb => (c _).1 (land_sub h2 (inM_pred.2 ⟨e, he, hb, rfl⟩))⟩
    rw [(c i).2 hi] at h1; cases h1
  · rintro ⟨h1, o', ho', h2⟩
    rw [ho] at ho'; cases ho'
    refine ⟨?_, sub_land fun j hj => ?_⟩
    · cases hq : inM m i with
      | false => rfl
      | true => exact absurd ((c i).1 hq) h1
    · obtain ⟨e, he, hb, rfl⟩ := inM_pred.1 hj
      exact (c _).2 (h2 e he hb)

/-! ### Looks -/
theorem op?_congr {P : Program} {O : Orc} {ext : Ext} {h : AH} {f g : Operand → AV} {o : Oper} (e : ∀ x ∈ o.op.operands.toList, f x = g x) : op? P O ext h f o = op? P O ext h g o := by
  have hc : ∀ (c : Call), (∀ x ∈ c.operands.toList, f x = g x) → ∀ ty, resolve? f c ty = resolve? g c ty := by
    intro c hc ty
    have hargs : c.args.toList.map f = c.args.toList.map g := List.map_congr_left fun x hx => hc x (by
      unfold Call.operands
      simp only [Array.toList_append, List.mem_append]
      exact .inr hx)
    unfold resolve?
    rw [hargs]
    split
    · rfl
    · rename_i recv name hcal
      have : f recv = g recv := hc recv (by unfold Call.operands; rw [hcal]; simp)
      rw [this]
    · rename_i fx hcal
      have : f fx = g fx := hc fx (by unfold Call.operands; rw [hcal]; simp)
      rw [this]
  have hparts : ∀ (ps : Array (Nat × Operand)), (∀ x ∈ (ps.toList.map (·.2)), f x = g x) → ps.toList.map (fun (i, x) => (i, f x)) = ps.toList.map (fun (i, x) => (i, g x)) := fun ps hp =>
    List.map_congr_left fun x hx => by
      have : f x.2 = g x.2 := hp x.2 (List.mem_map.2 ⟨x, hx, rfl⟩)
      show (x.1, f x.2) = (x.1, g x.2)
      rw [this]
  unfold op?
  generalize hop : o.op = op at e
  cases op <;> simp only [Op.operands, List.mem_cons, List.not_mem_nil, or_false, forall_eq_or_imp, forall_eq, List.toList_toArray, Array.toList_append, List.mem_append] at e <;> dsimp only
  case pick c a b => rw [e.1, e.2.1, e.2.2]
  case build t ps => rw [hparts ps e]
  case buildSlice t n ps => rw [hparts ps e]
  case makeFunc fn fs cs =>
    rw [List.map_congr_left (f := f) (g := g) fun x hx => e x (.inl hx), List.map_congr_left (f := f) (g := g) fun x hx => e x (.inr hx)]
  case slice t x l hh mx =>
    have hx : f x = g x := e x (by simp)
    have ho : ∀ (y : Option Operand), (∀ z, y = some z → f z = g z) → y.map f = y.map g := fun y hy => by
      cases y with
      | none => rfl
      | some z => simp [hy z rfl]
    rw [hx, ho l fun z hz => e z (by subst hz; simp), ho hh fun z hz => e z (by subst hz; simp), ho mx fun z hz => e z (by subst hz; simp)]
  case makeMap t r =>
    have : r.map f = r.map g := by
      cases r with
      | none => rfl
      | some z => simp [e z (by simp)]
    rw [this]
  case call c => rw [hc c e]
  case defer c => rw [hc c e]
  case unOp u t x => cases u <;> dsimp only <;> simp only [e]
  all_goals first
    | rfl
    | (simp only [e]; done)
    | (simp only [e.1, e.2]; done)

theorem valOp_same {r : M AV} {h h' : AH} {n : AN} (he : valOp r h = .ok (n, h')) : h' = h := by
  unfold valOp at he
  split at he
  · cases he; rfl
  · cases he

theorem quiet_same {P : Program} {O : Orc} {ext : Ext} {h h' : AH} {f : Operand → AV} {o : Oper} {n : AN} (hq : quietOp o = true) (he : op? P O ext h f o = .ok (n, h')) : h' = h := by
  unfold quietOp at hq
  unfold op? at he
  generalize o.op = op at hq he
  cases op <;> simp at hq <;> dsimp only at he
  case unOp u t x =>
    cases u <;> dsimp only at he <;> (repeat' split at he) <;> first | (cases he; rfl) | cases he
  all_goals first
    | exact valOp_same he
    | (cases he; rfl)
    | ((repeat' split at he) <;> first | exact valOp_same he | (cases he; rfl) | cases he)

/-- Temporaries that an operation sees alike. -/
def Alike (ops : Array Oper) (o : Oper) (t t' : TT) : Prop := ∀ d ∈ o.looksAt ops, t'.get d = t.get d

theorem Alike.eval {ops : Array Oper} {o : Oper} {t t' : TT} (h : Alike ops o t t') : ∀ x ∈ o.op.operands.toList, evalA t' x = evalA t x := by
  intro x hx
  cases x with
  | tmp d => exact h d (List.mem_append_left _ (List.mem_filterMap.2 ⟨.tmp d, hx, rfl⟩))
  | _ => rfl

theorem Alike.wanted {O : Orc} {ops : Array Oper} {o : Oper} {t t' : TT} (h : Alike ops o t t') : wantedA O ops t' o = wantedA O ops t o := by
  unfold wantedA
  cases hg : o.guard with
  | none => rfl
  | some gw =>
    obtain ⟨j, want⟩ := gw
    dsimp only
    have : yieldedA O ops t' j = yieldedA O ops t j := by
      unfold yieldedA
      cases hd : (ops[j]?).bind (·.dst) with
      | none => rfl
      | some d =>
        dsimp only
        rw [h d (List.mem_append_right _ (by rw [hg]; simp [hd]))]
    rw [this]

theorem opFull_alike {P : Program} {O : Orc} {ext : Ext} {call : FuncId → List AV → AH → M (AE × AH)} {nt : Nat} {ops : Array Oper} {i : Nat} {o : Oper} {t t' t1 : TT} {h h1 : AH} (ho : ops[i]? = some o) (ha : Alike ops o t t')
    (he : opFull P O ext call nt ops i t h = .ok (.on t1 h1)) : ∃ v, t1 = putA nt t o.dst v ∧ opFull P O ext call nt ops i t' h = .ok (.on (putA nt t' o.dst v) h1) := by
  unfold opFull at he ⊢
  rw [ho] at he ⊢
  dsimp only at he ⊢
  rw [ha.wanted, op?_congr ha.eval]
  split at he
  · cases he
  · rename_i hw; cases he; exact ⟨_, rfl, rfl⟩
  · rename_i hw
    split at he
    · cases he
    · rename_i v h' hop; cases he; exact ⟨v, rfl, rfl⟩
    · rename_i h' hop; cases he; exact ⟨undefA, rfl, rfl⟩
    · rename_i f args h' hop
      split at he
      · rename_i v h'' hc; cases he; exact ⟨v, rfl, rfl⟩
      · cases he
      · cases he
    · cases he
    · cases he

/-- A quiet operation in full. -/
theorem opFull_quiet {P : Program} {O : Orc} {ext : Ext} {call : FuncId → List AV → AH → M (AE × AH)} {nt : Nat} {ops : Array Oper} {i : Nat} {o : Oper} {t : TT} {h : AH} (ho : ops[i]? = some o) (hq : quietOp o = true) {v : AV}
    (he : wantedA O ops t o = .ok false ∧ v = undefA ∨ wantedA O ops t o = .ok true ∧ ∃ h', op? P O ext h (evalA t) o = .ok (.value v, h')) : opFull P O ext call nt ops i t h = .ok (.on (putA nt t o.dst v) h) := by
  unfold opFull
  rw [ho]
  dsimp only
  rcases he with ⟨hw, rfl⟩ | ⟨hw, h', hop⟩
  · rw [hw]
  · rw [hw]
    dsimp only
    have := quiet_same hq hop
    subst this
    rw [hop]

theorem putA_get {nt : Nat} (hnt : nt ≤ 60000) (t : TT) (dst : Option Tmp) (v : AV) (n : Nat) : (putA nt t dst v).get n = if dst = some n ∧ n < nt then v else t.get n := by
  unfold putA
  cases dst with
  | none => simp
  | some d =>
    dsimp only
    cases hb : Nat.ble (d + 1) nt with
    | true =>
      have hd : Nat.succ d ≤ nt := Nat.le_of_ble_eq_true hb
      have hb16 : Nat.succ d < 2 ^ 16 := Nat.lt_of_le_of_lt (Nat.le_trans hd hnt) (by decide)
      dsimp only
      rw [TT.get_set v 16 t d n hb16]
      by_cases e : n = d
      · subst e; rw [if_pos rfl, if_pos ⟨rfl, hd⟩]
      · rw [if_neg e, if_neg fun x => e (Option.some.inj x.1).symm]
    | false =>
      dsimp only
      rw [if_neg]
      rintro ⟨e, hn⟩
      obtain rfl := Option.some.inj e
      have h2 : Nat.ble (d + 1) nt = true := Nat.ble_eq_true_of_le (Nat.succ_le_of_lt hn)
      rw [h2] at hb; cases hb

/-! ### What is reckoned, and what is really drawn -/
/-- Number n is the place of a quiet one that has been reckoned and not drawn. -/
def Pending (ops : Array Oper) (s r : List Nat) (n : Nat) : Prop := ∃ i o, i ∈ s ∧ i ∉ r ∧ ops[i]? = some o ∧ o.dst = some n

structure Near (ops : Array Oper) (nt : Nat) (s r : List Nat) (t tr : TT) : Prop where
  sub : ∀ i ∈ r, i ∈ s
  quiet : ∀ i ∈ s, i ∉ r → ∃ o, ops[i]? = some o ∧ quietOp o = true
  same : ∀ n, n < nt → ¬ Pending ops s r n → tr.get n = t.get n
  out : ∀ n, nt ≤ n → tr.get n = t.get n

/-- Whoever has been reckoned: those for whom he waits were reckoned ahead of him. -/
def Topo (ops : Array Oper) : List Nat → Prop
  | [] => True
  | i :: s => i ∈ readyIn ops s ∧ Topo ops s

theorem Topo.ready {ops : Array Oper} {r : List Nat} : ∀ {s : List Nat}, Topo ops s → (∃ i ∈ s, i ∉ r) → ∃ i ∈ s, i ∈ readyIn ops r
  | [], _, ⟨i, h, _⟩ => by cases h
  | a :: s, ⟨h1, h2⟩, hx => by
    by_cases hs : ∃ i ∈ s, i ∉ r
    · obtain ⟨i, hi, hr⟩ := Topo.ready h2 hs
      exact ⟨i, List.mem_cons_of_mem _ hi, hr⟩
    · have hall : ∀ i ∈ s, i ∈ r := fun i hi => Classical.byContradiction fun hn => hs ⟨i, hi, hn⟩
      obtain ⟨i, hi, hn⟩ := hx
      rcases List.mem_cons.1 hi with rfl | hi
      · obtain ⟨_, o, ho, hp⟩ := ready_iff.1 h1
        exact ⟨i, List.mem_cons_self .., ready_iff.2 ⟨hn, o, ho, fun e he hb => hall _ (hp e he hb)⟩⟩
      · exact absurd (hall i hi) hn

theorem Topo.lt {ops : Array Oper} : ∀ {s : List Nat}, Topo ops s → ∀ i ∈ s, i < ops.size
  | [], _, i, h => by cases h
  | a :: s, ⟨h1, h2⟩, i, h => by
    rcases List.mem_cons.1 h with rfl | h
    · exact (readyIn_mem h1).1
    · exact Topo.lt h2 i h

theorem regionOk_spec {ops : Array Oper} (h : regionOk ops (infosOf ops) = true) {i j d : Nat} {oi oj : Oper} (hi : ops[i]? = some oi) (hj : ops[j]? = some oj) (hq : quietOp oi = true) (hd : oi.dst = some d) (hl : d ∈ oj.looksAt ops) :
    ∃ e ∈ oj.after.toList, Region.binds .any e = true ∧ e.on = i := by
  unfold regionOk at h
  rw [List.all_eq_true] at h
  have h1 := h _ (mem_infos.2 ⟨i, oi, hi, rfl⟩)
  dsimp only at h1
  rw [hq, hd] at h1
  dsimp only at h1
  rw [List.all_eq_true] at h1
  have h2 := h1 _ (mem_infos.2 ⟨j, oj, hj, rfl⟩)
  dsimp only at h2
  have hc : (oj.looksAt ops).contains d = true := by simpa using hl
  rw [hc] at h2
  simp only [Bool.not_true, Bool.false_or] at h2
  exact inM_pred.1 h2

/-- Whoever is ready sees what is reckoned. -/
theorem Near.alike {ops : Array Oper} {nt : Nat} {s r : List Nat} {t tr : TT} (N : Near ops nt s r t tr) (hok : regionOk ops (infosOf ops) = true) {j : Nat} {oj : Oper} (hj : ops[j]? = some oj) (hr : j ∈ readyIn ops r) : Alike ops oj t tr := by
  intro d hd
  rcases Nat.lt_or_ge d nt with hlt | hge
  rotate_left
  · exact N.out d hge
  refine N.same d hlt fun ⟨i, oi, h1, h2, h3, h4⟩ => ?_
  obtain ⟨o, ho, hq⟩ := N.quiet i h1 h2
  rw [h3] at ho; cases ho
  obtain ⟨e, he, hb, rfl⟩ := regionOk_spec hok h3 hj hq h4 hd
  obtain ⟨_, o', ho', hp⟩ := ready_iff.1 hr
  rw [hj] at ho'; cases ho'
  exact h2 (hp e he hb)

/-- A pending one is drawn. -/
theorem Near.drawn {ops : Array Oper} {nt : Nat} (hnt : nt ≤ 60000) {s r : List Nat} {t tr : TT} (N : Near ops nt s r t tr) {i : Nat} {o : Oper} (ho : ops[i]? = some o) (hi : i ∈ s) {v : AV} (hv : ∀ d, o.dst = some d → d < nt → t.get d = v) :
    Near ops nt s (i :: r) t (putA nt tr o.dst v) := by
  refine ⟨fun j hj => ?_, fun j hj hn => N.quiet j hj fun x => hn (List.mem_cons_of_mem _ x), fun n hlt hn => ?_, fun n hge => ?_⟩
  · rcases List.mem_cons.1 hj with rfl | hj
    · exact hi
    · exact N.sub j hj
  · rw [putA_get hnt]
    split
    · rename_i hd; exact (hv n hd.1 hd.2).symm
    · rename_i hd
      refine N.same n hlt fun ⟨a, oa, h1, h2, h3, h4⟩ => ?_
      by_cases e : a = i
      · subst e
        rw [ho] at h3; cases h3
        exact hd ⟨h4, hlt⟩
      · exact hn ⟨a, oa, h1, (fun x => (List.mem_cons.1 x).elim e h2), h3, h4⟩
  · rw [putA_get hnt, if_neg fun x => absurd x.2 (Nat.not_lt.2 hge)]
    exact N.out n hge

/-- What the soaking leaves. -/
structure Soaked (ops : Array Oper) (nt : Nat) (s : List Nat) (t : TT) (s2 : List Nat) (m2 : Nat) (t2 : TT) : Prop where
  sub : ∀ i ∈ s, i ∈ s2
  quiet : ∀ i ∈ s2, i ∉ s → ∃ o, ops[i]? = some o ∧ quietOp o = true
  same : ∀ n, (¬ ∃ i o, i ∈ s2 ∧ i ∉ s ∧ ops[i]? = some o ∧ o.dst = some n ∧ n < nt) → t2.get n = t.get n
  cons : Cons s2 m2
  topo : Topo ops s2

theorem soakM_ok {P : Program} {O : Orc} {ext : Ext} {nt : Nat} (hnt : nt ≤ 60000) {ops : Array Oper} {h : AH} : ∀ {l : List Info}, (∀ x ∈ l, x ∈ infosOf ops) → ∀ {s : List Nat} {m : Nat} {t : TT} {s2 : List Nat} {m2 : Nat} {t2 : TT}, Cons s m → Topo ops s →
    soakM P O ext nt ops h l s m t = .ok (s2, m2, t2) → Soaked ops nt s t s2 m2 t2
  | [], _, s, m, t, s2, m2, t2, c, tp, he => by
    simp only [soakM] at he
    cases he
    exact ⟨fun i x => x, fun i x y => absurd x y, fun n _ => rfl, c, tp⟩
  | x :: l, hl, s, m, t, s2, m2, t2, c, tp, he => by
    have hl' : ∀ y ∈ l, y ∈ infosOf ops := fun y hy => hl y (List.mem_cons_of_mem _ hy)
    simp only [soakM] at he
    split at he
    · exact soakM_ok hnt hl' c tp he
    · rename_i hb
      rw [Bool.and_eq_true] at hb
      obtain ⟨i, o, ho, rfl⟩ := mem_infos.1 (hl x (List.mem_cons_self ..))
      dsimp only at hb he
      have hr := (can_iff c ho).1 hb.2
      have step : ∀ {v : AV} {s2 : List Nat} {m2 : Nat} {t2 : TT}, soakM P O ext nt ops h l (i :: s) (addM m i) (putA nt t o.dst v) = .ok (s2, m2, t2) → Soaked ops nt s t s2 m2 t2 := by
        intro v s2 m2 t2 he
        have S := soakM_ok hnt hl' (c.add (i := i)) (show Topo ops (i :: s) from ⟨hr, tp⟩) he
        refine ⟨fun j hj => S.sub j (List.mem_cons_of_mem _ hj), fun j hj hn => ?_, fun n hn => ?_, S.cons, S.topo⟩
        · by_cases e : j = i
          · subst e; exact ⟨o, ho, hb.1⟩
          · exact S.quiet j hj fun x => (List.mem_cons.1 x).elim e hn
        · rw [S.same n fun ⟨j, oj, h1, h2, h3, h4, h5⟩ => hn ⟨j, oj, h1, fun x => h2 (List.mem_cons_of_mem _ x), h3, h4, h5⟩, putA_get hnt]
          refine if_neg fun ⟨h4, h5⟩ => hn ⟨i, o, S.sub i (List.mem_cons_self ..), (readyIn_mem hr).2, ho, h4, h5⟩
      split at he
      · cases he
      · exact step he
      · split at he
        · exact step he
        · cases he
        · cases he

/-- One that is not quiet is drawn, and the rest is soaked. -/
theorem Near.next {ops : Array Oper} {nt : Nat} (hnt : nt ≤ 60000) {s r : List Nat} {t tr : TT} (N : Near ops nt s r t tr) {j : Nat} {o : Oper} (ho : ops[j]? = some o) (hj : j ∉ s) {v : AV} {s2 : List Nat} {m2 : Nat} {t2 : TT}
    (S : Soaked ops nt (j :: s) (putA nt t o.dst v) s2 m2 t2) : Near ops nt s2 (j :: r) t2 (putA nt tr o.dst v) := by
  have hsub : ∀ i ∈ j :: r, i ∈ j :: s := fun i hi => by
    rcases List.mem_cons.1 hi with rfl | hi
    · exact List.mem_cons_self ..
    · exact List.mem_cons_of_mem _ (N.sub i hi)
  have same2 : ∀ n, (¬ ∃ i o, i ∈ s2 ∧ i ∉ j :: r ∧ ops[i]? = some o ∧ o.dst = some n ∧ n < nt) → t2.get n = (putA nt t o.dst v).get n := fun n hn =>
    S.same n fun ⟨i, oi, h1, h2, h3, h4, h5⟩ => hn ⟨i, oi, h1, fun x => h2 (hsub i x), h3, h4, h5⟩
  refine ⟨fun i hi => S.sub i (hsub i hi), fun i hi hn => ?_, fun n hlt hn => ?_, fun n hge => ?_⟩
  · by_cases e : i ∈ j :: s
    · rcases List.mem_cons.1 e with rfl | e
      · exact absurd (List.mem_cons_self ..) hn
      · exact N.quiet i e fun x => hn (List.mem_cons_of_mem _ x)
    · exact S.quiet i hi e
  · rw [same2 n fun ⟨i, oi, h1, h2, h3, h4, h5⟩ => hn ⟨i, oi, h1, h2, h3, h4⟩, putA_get hnt, putA_get hnt]
    split
    · rfl
    · refine N.same n hlt fun ⟨a, oa, h1, h2, h3, h4⟩ => hn ⟨a, oa, S.sub a (List.mem_cons_of_mem _ h1), (fun x => ?_), h3, h4⟩
      rcases List.mem_cons.1 x with rfl | x
      · exact hj h1
      · exact h2 x
  · rw [same2 n fun ⟨i, oi, h1, h2, h3, h4, h5⟩ => absurd h5 (Nat.not_lt.2 hge), putA_get hnt, putA_get hnt, if_neg fun x => absurd x.2 (Nat.not_lt.2 hge), if_neg fun x => absurd x.2 (Nat.not_lt.2 hge)]
    exact N.out n hge

theorem Near.begin {ops : Array Oper} {nt : Nat} {t : TT} {s2 : List Nat} {m2 : Nat} {t2 : TT} (S : Soaked ops nt [] t s2 m2 t2) : Near ops nt s2 [] t2 t :=
  ⟨(fun i hi => by cases hi), fun i hi hn => S.quiet i hi hn, fun n hlt hn => (S.same n fun ⟨i, oi, h1, h2, h3, h4, h5⟩ => hn ⟨i, oi, h1, h2, h3, h4⟩).symm, fun n hge => (S.same n fun ⟨i, oi, h1, h2, h3, h4, h5⟩ => absurd h5 (Nat.not_lt.2 hge)).symm⟩

/-- All have been drawn. -/
theorem Near.over {ops : Array Oper} {nt : Nat} {s r : List Nat} {t tr : TT} (N : Near ops nt s r t tr) (tp : Topo ops s) (hr : readyIn ops r = []) : (∀ i ∈ s, i ∈ r) ∧ readyIn ops s = [] ∧ ∀ n, tr.get n = t.get n := by
  have hall : ∀ i ∈ s, i ∈ r := fun i hi => Classical.byContradiction fun hn => by
    obtain ⟨j, _, hj⟩ := tp.ready ⟨i, hi, hn⟩
    rw [hr] at hj; cases hj
  refine ⟨hall, ?_, fun n => ?_⟩
  · rw [readyIn_congr (b := r) fun i => ⟨hall i, N.sub i⟩]; exact hr
  · rcases Nat.lt_or_ge n nt with hlt | hge
    · exact N.same n hlt fun ⟨i, o, h1, h2, _⟩ => h2 (hall i h1)
    · exact N.out n hge

theorem holdsQ_ok {P : Program} {O : Orc} {ext : Ext} {nt : Nat} {ops : Array Oper} {m : Nat} {t : TT} {h : AH} : ∀ {l : List Info}, holdsQ P O ext nt ops m t h l = true → ∀ x ∈ l, x.2.2.2 = true → inM m x.1 = true →
    ∃ v, (wantedA O ops t x.2.1 = .ok false ∧ v = undefA ∨ wantedA O ops t x.2.1 = .ok true ∧ ∃ h', op? P O ext h (evalA t) x.2.1 = .ok (.value v, h')) ∧ ∀ d, x.2.1.dst = some d → d < nt → t.get d = v
  | [], _, x, hx, _, _ => by cases hx
  | y :: l, he, x, hx, hq, hm => by
    simp only [holdsQ, Bool.and_eq_true] at he
    have put : ∀ {v : AV}, dstIs nt t x.2.1.dst v = true → ∀ d, x.2.1.dst = some d → d < nt → t.get d = v := by
      intro v hd d hdd hlt
      unfold dstIs at hd
      rw [hdd] at hd
      dsimp only at hd
      have h2 : Nat.ble (d + 1) nt = true := Nat.ble_eq_true_of_le (Nat.succ_le_of_lt hlt)
      rw [h2] at hd
      exact AV.eqb_eq _ _ hd
    rcases List.mem_cons.1 hx with rfl | hx
    · have h1 := he.1
      rw [hq, hm] at h1
      simp only [Bool.and_self] at h1
      split at h1
      · cases h1
      · rename_i hw; exact ⟨_, .inl ⟨hw, rfl⟩, put h1⟩
      · rename_i hw
        split at h1
        · rename_i v h' hop; exact ⟨v, .inr ⟨hw, h', hop⟩, put h1⟩
        · cases h1
    · exact holdsQ_ok he.2 x hx hq hm
end Go.Proofs.Ytcpiafgkmakdiaa.SX

/-
  Drawn regions with the quiet operations first: masks, looks, what a state of the order that is really drawn shares with the one that is reckoned.
-/
import Derived.Test.YtmnahfonnljobaaGreatDoorSxWalk
set_option linter.unusedSectionVars false
set_option linter.unusedVariables false
set_option linter.unusedSimpArgs false
namespace Go.Proofs.YtmnahfonnljobaaGreatDoor.SX
open Go.Conc

/-! ### Masks -/
theorem inM_testBit (m i : Nat) : inM m i = m.testBit i := by
  unfold inM bitOf
  have h : Nat.land m (Nat.pow 2 i) = m &&& 2 ^ i := rfl
  rw [h]
  cases hb : m.testBit i with
  | true =>
    have : m &&& 2 ^ i ≠ 0 := fun e => by
      have := congrArg (fun x => Nat.testBit x i) e
      simp [Nat.testBit_and, hb, Nat.testBit_two_pow_self] at this
    cases hq : Nat.beq (m &&& 2 ^ i) 0 with
    | true => exact absurd (Nat.eq_of_beq_eq_true hq) this
    | false => rfl
  | false =>
    have : m &&& 2 ^ i = 0 := by
      apply Nat.eq_of_testBit_eq
      intro j
      rw [Nat.testBit_and, Nat.zero_testBit]
      by_cases e : i = j
      · subst e; simp [hb]
      · simp [Nat.testBit_two_pow, e]
    rw [this]; rfl

theorem inM_add (m i j : Nat) : inM (addM m i) j = (inM m j || decide (i = j)) := by
  rw [inM_testBit, inM_testBit]
  have : addM m i = m ||| 2 ^ i := rfl
  rw [this, Nat.testBit_or, Nat.testBit_two_pow]

theorem inM_zero (i : Nat) : inM 0 i = false := by rw [inM_testBit]; simp

theorem land_sub {a m : Nat} (h : Nat.beq (Nat.land a m) a = true) {j : Nat} (hj : inM a j = true) : inM m j = true := by
  have e : a &&& m = a := Nat.eq_of_beq_eq_true h
  rw [inM_testBit] at hj ⊢
  have := congrArg (fun x => Nat.testBit x j) e
  simp only [Nat.testBit_and, hj, Bool.true_and] at this
  exact this

theorem sub_land {a m : Nat} (h : ∀ j, inM a j = true → inM m j = true) : Nat.beq (Nat.land a m) a = true := by
  have : a &&& m = a := by
    apply Nat.eq_of_testBit_eq
    intro j
    rw [Nat.testBit_and]
    have := h j
    rw [inM_testBit, inM_testBit] at this
    cases ha : a.testBit j with
    | false => rfl
    | true => rw [this ha]; rfl
  have h2 : Nat.land a m = a := this
  rw [h2]
  exact Nat.beq_refl a

theorem inM_pred {l : List Edge} {j : Nat} : inM (predMask l) j = true ↔ ∃ e ∈ l, Region.binds .any e = true ∧ e.on = j := by
  induction l with
  | nil => simp [predMask, inM_zero]
  | cons e l ih =>
    unfold predMask
    cases hb : Region.binds .any e with
    | true =>
      simp only [inM_add, Bool.or_eq_true, ih, decide_eq_true_eq, List.mem_cons]
      constructor
      · rintro (⟨x, hx, a, b⟩ | h)
        · exact ⟨x, .inr hx, a, b⟩
        · exact ⟨e, .inl rfl, hb, h⟩
      · rintro ⟨x, rfl | hx, a, b⟩
        · exact .inr b
        · exact .inl ⟨x, hx, a, b⟩
    | false =>
      simp only [ih, List.mem_cons]
      constructor
      · rintro ⟨x, hx, a, b⟩; exact ⟨x, .inr hx, a, b⟩
      · rintro ⟨x, rfl | hx, a, b⟩
        · rw [hb] at a; cases a
        · exact ⟨x, hx, a, b⟩

def infoAt (ops : Array Oper) (i : Nat) (o : Oper) : Info := (i, o, predMask o.after.toList, quietOp o)

theorem mem_infosFrom {l : List Oper} : ∀ {n : Nat} {x : Info}, x ∈ infosFrom n l ↔ ∃ i o, l[i]? = some o ∧ x = (n + i, o, predMask o.after.toList, quietOp o) := by
  induction l with
  | nil => intro n x; simp [infosFrom]
  | cons o l ih =>
    intro n x
    simp only [infosFrom, List.mem_cons, ih]
    constructor
    · rintro (rfl | ⟨i, o', h, rfl⟩)
      · exact ⟨0, o, rfl, rfl⟩
      · exact ⟨i + 1, o', by simpa using h, by rw [show n + 1 + i = n + (i + 1) by omega]⟩
    · rintro ⟨i, o', h, rfl⟩
      cases i with
      | zero => simp at h; subst h; exact .inl rfl
      | succ i => exact .inr ⟨i, o', by simpa using h, by rw [show n + 1 + i = n + (i + 1) by omega]⟩

theorem mem_infos {ops : Array Oper} {x : Info} : x ∈ infosOf ops ↔ ∃ i o, ops[i]? = some o ∧ x = (i, o, predMask o.after.toList, quietOp o) := by
  unfold infosOf
  rw [mem_infosFrom]
  simp

/-- The mask says the set. -/
def Cons (s : List Nat) (m : Nat) : Prop := ∀ i, inM m i = true ↔ i ∈ s

theorem Cons.add {s : List Nat} {m i : Nat} (h : Cons s m) : Cons (i :: s) (addM m i) := fun j => by
  rw [inM_add, Bool.or_eq_true, h j, decide_eq_true_eq, List.mem_cons]
  constructor
  · rintro (x | x)
    · exact .inr x
    · exact .inl x.symm
  · rintro (x | x)
    · exact .inr x.symm
    · exact .inl x

theorem cons_nil : Cons [] 0 := fun i => by simp [inM_zero]

theorem ready_iff {ops : Array Oper} {s : List Nat} {i : Nat} : i ∈ readyIn ops s ↔ i ∉ s ∧ ∃ o, ops[i]? = some o ∧ ∀ e ∈ o.after.toList, Region.binds .any e = true → e.on ∈ s := by
  unfold readyIn
  rw [List.mem_filter]
  constructor
  · rintro ⟨h1, h2⟩
    simp only [Bool.and_eq_true, Bool.not_eq_true', List.contains_eq_mem, decide_eq_false_iff_not] at h2
    refine ⟨h2.1, ?_⟩
    have h3 := h2.2
    split at h3
    · rename_i o ho
      refine ⟨o, ho, fun e he hb => ?_⟩
      unfold boundIn at h3
      rw [← Array.all_toList, List.all_eq_true] at h3
      have := h3 e he
      simpa [hb] using this
    · cases h3
  · rintro ⟨h1, o, ho, h2⟩
    refine ⟨List.mem_range.2 (Array.getElem?_eq_some_iff.1 ho).1, ?_⟩
    simp only [Bool.and_eq_true, Bool.not_eq_true', List.contains_eq_mem, decide_eq_false_iff_not]
    refine ⟨h1, ?_⟩
    rw [ho]
    show boundIn s o = true
    unfold boundIn
    rw [← Array.all_toList, List.all_eq_true]
    intro e he
    cases hb : Region.binds .any e with
    | false => rfl
    | true => simpa using h2 e he hb

theorem can_iff {ops : Array Oper} {s : List Nat} {m : Nat} (c : Cons s m) {i : Nat} {o : Oper} (ho : ops[i]? = some o) : canM m (i, o, predMask o.after.toList, quietOp o) = true ↔ i ∈ readyIn ops s := by
  rw [ready_iff]
  unfold canM
  simp only [Bool.and_eq_true, Bool.not_eq_true']
  constructor
  · rintro ⟨h1, h2⟩
    refine ⟨fun hi => ?_, o, ho, fun e he hb => (c _).1 (land_sub h2 (inM_pred.2 ⟨e, he, hb, rfl⟩))⟩
    rw [(c i).2 hi] at h1; cases h1
  · rintro ⟨h1, o', ho', h2⟩
    rw [ho] at ho'; cases ho'
    refine ⟨?_, sub_land fun j hj => ?_⟩
    · cases hq : inM m i with
      | false => rfl
      | true => exact absurd ((c i).1 hq) h1
    · obtain ⟨e, he, hb, rfl⟩ := inM_pred.1 hj
      exact (c _).2 (h2 e he hb)

/-! ### Looks -/
theorem op?_congr {P : Program} {O : Orc} {ext : Ext} {h : AH} {f g : Operand → AV} {o : Oper} (e : ∀ x ∈ o.op.operands.toList, f x = g x) : op? P O ext h f o = op? P O ext h g o := by
  have hc : ∀ (c : Call), (∀ x ∈ c.operands.toList, f x = g x) → ∀ ty, resolve? f c ty = resolve? g c ty := by
    intro c hc ty
    have hargs : c.args.toList.map f = c.args.toList.map g := List.map_congr_left fun x hx => hc x (by
      unfold Call.operands
      simp only [Array.toList_append, List.mem_append]
      exact .inr hx)
    unfold resolve?
    rw [hargs]
    split
    · rfl
    · rename_i recv name hcal
      have : f recv = g recv := hc recv (by unfold Call.operands; rw [hcal]; simp)
      rw [this]
    · rename_i fx hcal
      have : f fx = g fx := hc fx (by unfold Call.operands; rw [hcal]; simp)
      rw [this]
  have hparts : ∀ (ps : Array (Nat × Operand)), (∀ x ∈ (ps.toList.map (·.2)), f x = g x) → ps.toList.map (fun (i, x) => (i, f x)) = ps.toList.map (fun (i, x) => (i, g x)) := fun ps hp =>
    List.map_congr_left fun x hx => by
      have : f x.2 = g x.2 := hp x.2 (List.mem_map.2 ⟨x, hx, rfl⟩)
      show (x.1, f x.2) = (x.1, g x.2)
      rw [this]
  unfold op?
  generalize hop : o.op = op at e
  cases op <;> simp only [Op.operands, List.mem_cons, List.not_mem_nil, or_false, forall_eq_or_imp, forall_eq, List.toList_toArray, Array.toList_append, List.mem_append] at e <;> dsimp only
  case pick c a b => rw [e.1, e.2.1, e.2.2]
  case build t ps => rw [hparts ps e]
  case buildSlice t n ps => rw [hparts ps e]
  case makeFunc fn fs cs =>
    rw [List.map_congr_left (f := f) (g := g) fun x hx => e x (.inl hx), List.map_congr_left (f := f) (g := g) fun x hx => e x (.inr hx)]
  case slice t x l hh mx =>
    have hx : f x = g x := e x (by simp)
    have ho : ∀ (y : Option Operand), (∀ z, y = some z → f z = g z) → (y.map fun x => normI O (f x)) = y.map fun x => normI O (g x) := fun y hy => by
      cases y with
      | none => rfl
      | some z => simp [hy z rfl]
    rw [hx, ho l fun z hz => e z (by subst hz; simp), ho hh fun z hz => e z (by subst hz; simp), ho mx fun z hz => e z (by subst hz; simp)]
  case makeMap t r =>
    have : r.map f = r.map g := by
      cases r with
      | none => rfl
      | some z => simp [e z (by simp)]
    rw [this]
  case call c => rw [hc c e]
  case defer c => rw [hc c e]
  case unOp u t x => cases u <;> dsimp only <;> simp only [e]
  all_goals first
    | rfl
    | (simp only [e]; done)
    | (simp only [e.1, e.2]; done)

theorem valOp_same {r : M AV} {h h' : AH} {n : AN} (he : valOp r h = .ok (n, h')) : h' = h := by
  unfold valOp at he
  split at he
  · cases he; rfl
  · cases he

theorem quiet_same {P : Program} {O : Orc} {ext : Ext} {h h' : AH} {f : Operand → AV} {o : Oper} {n : AN} (hq : quietOp o = true) (he : op? P O ext h f o = .ok (n, h')) : h' = h := by
  unfold quietOp at hq
  unfold op? at he
  generalize o.op = op at hq he
  cases op <;> simp at hq <;> dsimp only at he
  case unOp u t x =>
    cases u <;> dsimp only at he <;> (repeat' split at he) <;> first | (cases he; rfl) | cases he
  all_goals first
    | exact valOp_same he
    | (cases he; rfl)
    | ((repeat' split at he) <;> first | exact valOp_same he | (cases he; rfl) | cases he)

/-- Temporaries that an operation sees alike. -/
def Alike (ops : Array Oper) (o : Oper) (t t' : TT) : Prop := ∀ d ∈ o.looksAt ops, t'.get d = t.get d

theorem Alike.eval {ops : Array Oper} {o : Oper} {t t' : TT} (h : Alike ops o t t') : ∀ x ∈ o.op.operands.toList, evalA t' x = evalA t x := by
  intro x hx
  cases x with
  | tmp d => exact h d (List.mem_append_left _ (List.mem_filterMap.2 ⟨.tmp d, hx, rfl⟩))
  | _ => rfl

theorem Alike.wanted {O : Orc} {ops : Array Oper} {o : Oper} {t t' : TT} (h : Alike ops o t t') : wantedA O ops t' o = wantedA O ops t o := by
  unfold wantedA
  cases hg : o.guard with
  | none => rfl
  | some gw =>
    obtain ⟨j, want⟩ := gw
    dsimp only
    have : yieldedA O ops t' j = yieldedA O ops t j := by
      unfold yieldedA
      cases hd : (ops[j]?).bind (·.dst) with
      | none => rfl
      | some d =>
        dsimp only
        rw [h d (List.mem_append_right _ (by rw [hg]; simp [hd]))]
    rw [this]

theorem opFull_alike {P : Program} {O : Orc} {ext : Ext} {call : FuncId → List AV → AH → M (AE × AH)} {nt : Nat} {ops : Array Oper} {i : Nat} {o : Oper} {t t' t1 : TT} {h h1 : AH} (ho : ops[i]? = some o) (ha : Alike ops o t t')
    (he : opFull P O ext call nt ops i t h = .ok (.on t1 h1)) : ∃ v, t1 = putA nt t o.dst v ∧ opFull P O ext call nt ops i t' h = .ok (.on (putA nt t' o.dst v) h1) := by
  unfold opFull at he ⊢
  rw [ho] at he ⊢
  dsimp only at he ⊢
  rw [ha.wanted, op?_congr ha.eval]
  split at he
  · cases he
  · rename_i hw; cases he; exact ⟨_, rfl, rfl⟩
  · rename_i hw
    split at he
    · cases he
    · rename_i v h' hop; cases he; exact ⟨v, rfl, rfl⟩
    · rename_i h' hop; cases he; exact ⟨undefA, rfl, rfl⟩
    · rename_i f args h' hop
      split at he
      · rename_i v h'' hc; cases he; exact ⟨v, rfl, rfl⟩
      · cases he
      · cases he
    · cases he
    · cases he

/-- A quiet operation in full. -/
theorem opFull_quiet {P : Program} {O : Orc} {ext : Ext} {call : FuncId → List AV → AH → M (AE × AH)} {nt : Nat} {ops : Array Oper} {i : Nat} {o : Oper} {t : TT} {h : AH} (ho : ops[i]? = some o) (hq : quietOp o = true) {v : AV}
    (he : wantedA O ops t o = .ok false ∧ v = undefA ∨ wantedA O ops t o = .ok true ∧ ∃ h', op? P O ext h (evalA t) o = .ok (.value v, h')) : opFull P O ext call nt ops i t h = .ok (.on (putA nt t o.dst v) h) := by
  unfold opFull
  rw [ho]
  dsimp only
  rcases he with ⟨hw, rfl⟩ | ⟨hw, h', hop⟩
  · rw [hw]
  · rw [hw]
    dsimp only
    have := quiet_same hq hop
    subst this
    rw [hop]

theorem putA_get {nt : Nat} (hnt : nt ≤ 60000) (t : TT) (dst : Option Tmp) (v : AV) (n : Nat) : (putA nt t dst v).get n = if dst = some n ∧ n < nt then v else t.get n := by
  unfold putA
  cases dst with
  | none => simp
  | some d =>
    dsimp only
    cases hb : Nat.ble (d + 1) nt with
    | true =>
      have hd : Nat.succ d ≤ nt := Nat.le_of_ble_eq_true hb
      have hb16 : Nat.succ d < 2 ^ 16 := Nat.lt_of_le_of_lt (Nat.le_trans hd hnt) (by decide)
      dsimp only
      rw [TT.get_set v 16 t d n hb16]
      by_cases e : n = d
      · subst e; rw [if_pos rfl, if_pos ⟨rfl, hd⟩]
      · rw [if_neg e, if_neg fun x => e (Option.some.inj x.1).symm]
    | false =>
      dsimp only
      rw [if_neg]
      rintro ⟨e, hn⟩
      obtain rfl := Option.some.inj e
      have h2 : Nat.ble (d + 1) nt = true := Nat.ble_eq_true_of_le (Nat.succ_le_of_lt hn)
      rw [h2] at hb; cases hb

/-! ### What is reckoned, and what is really drawn -/
/-- Number n is the place of a quiet one that has been reckoned and not drawn. -/
def Pending (ops : Array Oper) (s r : List Nat) (n : Nat) : Prop := ∃ i o, i ∈ s ∧ i ∉ r ∧ ops[i]? = some o ∧ o.dst = some n

def Down (ops : Array Oper) (r : List Nat) : Prop := ∀ i ∈ r, ∀ o, ops[i]? = some o → ∀ e ∈ o.after.toList, Region.binds .any e = true → e.on ∈ r
theorem Down.cons {ops : Array Oper} {r : List Nat} (d : Down ops r) {i : Nat} (h : i ∈ readyIn ops r) : Down ops (i :: r) := by
  obtain ⟨_, o, ho, hp⟩ := ready_iff.1 h
  intro j hj oj hoj e he hb
  rcases List.mem_cons.1 hj with rfl | hj
  · rw [ho] at hoj; cases hoj
    exact List.mem_cons_of_mem _ (hp e he hb)
  · exact List.mem_cons_of_mem _ (d j hj oj hoj e he hb)

structure Near (ops : Array Oper) (nt : Nat) (s r : List Nat) (t tr : TT) : Prop where
  sub : ∀ i ∈ r, i ∈ s
  quiet : ∀ i ∈ s, i ∉ r → ∃ o, ops[i]? = some o ∧ quietOp o = true
  same : ∀ n, n < nt → ¬ Pending ops s r n → tr.get n = t.get n
  out : ∀ n, nt ≤ n → tr.get n = t.get n
  down : Down ops r

theorem inM_lor (a b j : Nat) : inM (Nat.lor a b) j = (inM a j || inM b j) := by
  rw [inM_testBit, inM_testBit, inM_testBit]
  exact Nat.testBit_or a b j
theorem doneM_ok {m i : Nat} : ∀ {l : List Info}, inM (doneM m l) i = true → ∃ x ∈ l, x.2.2.2 = false ∧ inM m x.1 = true ∧ inM x.2.2.1 i = true
  | [], h => by simp [doneM, inM_zero] at h
  | x :: l, h => by
    simp only [doneM] at h
    split at h
    · rename_i hb
      simp only [Bool.and_eq_true, Bool.not_eq_true'] at hb
      rw [inM_lor, Bool.or_eq_true] at h
      rcases h with h | h
      · exact ⟨x, List.mem_cons_self .., hb.1, hb.2, h⟩
      · obtain ⟨y, hy, z⟩ := doneM_ok h
        exact ⟨y, List.mem_cons_of_mem _ hy, z⟩
    · obtain ⟨y, hy, z⟩ := doneM_ok h
      exact ⟨y, List.mem_cons_of_mem _ hy, z⟩
theorem inM_rem {infos : List Info} {m i : Nat} (h1 : inM m i = true) (h2 : inM (doneM m infos) i = false) : inM (remM infos m) i = true := by
  unfold remM
  rw [inM_testBit] at h1 h2 ⊢
  show (m &&& (m ^^^ doneM m infos)).testBit i = true
  rw [Nat.testBit_and, Nat.testBit_xor, h1, h2]
  rfl

/-- Whoever is pending: nobody that is not quiet, and done, has waited for him. -/
theorem Near.rem {ops : Array Oper} {nt : Nat} {s r : List Nat} {t tr : TT} (N : Near ops nt s r t tr) {m : Nat} (hc : Cons s m) {i : Nat} (hi : i ∈ s) (hr : i ∉ r) : inM (remM (infosOf ops) m) i = true := by
  refine inM_rem ((hc i).2 hi) ?_
  cases hd : inM (doneM m (infosOf ops)) i with
  | false => rfl
  | true =>
    obtain ⟨x, hx, h1, h2, h3⟩ := doneM_ok hd
    obtain ⟨j, o, ho, rfl⟩ := mem_infos.1 hx
    dsimp only at h1 h2 h3
    have hj : j ∈ s := (hc j).1 h2
    by_cases hjr : j ∈ r
    · obtain ⟨e, he, hb, rfl⟩ := inM_pred.1 h3
      exact absurd (N.down j hjr o ho e he hb) hr
    · obtain ⟨o', ho', hq⟩ := N.quiet j hj hjr
      rw [ho] at ho'; cases ho'
      rw [hq] at h1; cases h1

/-- Whoever has been reckoned: those for whom he waits were reckoned ahead of him. -/
def Topo (ops : Array Oper) : List Nat → Prop
  | [] => True
  | i :: s => i ∈ readyIn ops s ∧ Topo ops s

theorem Topo.ready {ops : Array Oper} {r : List Nat} : ∀ {s : List Nat}, Topo ops s → (∃ i ∈ s, i ∉ r) → ∃ i ∈ s, i ∈ readyIn ops r
  | [], _, ⟨i, h, _⟩ => by cases h
  | a :: s, ⟨h1, h2⟩, hx => by
    by_cases hs : ∃ i ∈ s, i ∉ r
    · obtain ⟨i, hi, hr⟩ := Topo.ready h2 hs
      exact ⟨i, List.mem_cons_of_mem _ hi, hr⟩
    · have hall : ∀ i ∈ s, i ∈ r := fun i hi => Classical.byContradiction fun hn => hs ⟨i, hi, hn⟩
      obtain ⟨i, hi, hn⟩ := hx
      rcases List.mem_cons.1 hi with rfl | hi
      · obtain ⟨_, o, ho, hp⟩ := ready_iff.1 h1
        exact ⟨i, List.mem_cons_self .., ready_iff.2 ⟨hn, o, ho, fun e he hb => hall _ (hp e he hb)⟩⟩
      · exact absurd (hall i hi) hn

theorem Topo.lt {ops : Array Oper} : ∀ {s : List Nat}, Topo ops s → ∀ i ∈ s, i < ops.size
  | [], _, i, h => by cases h
  | a :: s, ⟨h1, h2⟩, i, h => by
    rcases List.mem_cons.1 h with rfl | h
    · exact (readyIn_mem h1).1
    · exact Topo.lt h2 i h

theorem regionOk_spec {ops : Array Oper} (h : regionOk ops (infosOf ops) = true) {i j d : Nat} {oi oj : Oper} (hi : ops[i]? = some oi) (hj : ops[j]? = some oj) (hq : quietOp oi = true) (hd : oi.dst = some d) (hl : d ∈ oj.looksAt ops) :
    ∃ e ∈ oj.after.toList, Region.binds .any e = true ∧ e.on = i := by
  unfold regionOk at h
  rw [List.all_eq_true] at h
  have h1 := h _ (mem_infos.2 ⟨i, oi, hi, rfl⟩)
  dsimp only at h1
  rw [hq, hd] at h1
  dsimp only at h1
  rw [List.all_eq_true] at h1
  have h2 := h1 _ (mem_infos.2 ⟨j, oj, hj, rfl⟩)
  dsimp only at h2
  have hc : (oj.looksAt ops).contains d = true := by simpa using hl
  rw [hc] at h2
  simp only [Bool.not_true, Bool.false_or] at h2
  exact inM_pred.1 h2

/-- Whoever is ready sees what is reckoned. -/
theorem Near.alike {ops : Array Oper} {nt : Nat} {s r : List Nat} {t tr : TT} (N : Near ops nt s r t tr) (hok : regionOk ops (infosOf ops) = true) {j : Nat} {oj : Oper} (hj : ops[j]? = some oj) (hr : j ∈ readyIn ops r) : Alike ops oj t tr := by
  intro d hd
  rcases Nat.lt_or_ge d nt with hlt | hge
  rotate_left
  · exact N.out d hge
  refine N.same d hlt fun ⟨i, oi, h1, h2, h3, h4⟩ => ?_
  obtain ⟨o, ho, hq⟩ := N.quiet i h1 h2
  rw [h3] at ho; cases ho
  obtain ⟨e, he, hb, rfl⟩ := regionOk_spec hok h3 hj hq h4 hd
  obtain ⟨_, o', ho', hp⟩ := ready_iff.1 hr
  rw [hj] at ho'; cases ho'
  exact h2 (hp e he hb)

/-- A pending one is drawn. -/
theorem Near.drawn {ops : Array Oper} {nt : Nat} (hnt : nt ≤ 60000) {s r : List Nat} {t tr : TT} (N : Near ops nt s r t tr) {i : Nat} {o : Oper} (ho : ops[i]? = some o) (hi : i ∈ s) (hir : i ∈ readyIn ops r) {v : AV} (hv : ∀ d, o.dst = some d → d < nt → t.get d = v) :
    Near ops nt s (i :: r) t (putA nt tr o.dst v) := by
  refine ⟨fun j hj => ?_, fun j hj hn => N.quiet j hj fun x => hn (List.mem_cons_of_mem _ x), fun n hlt hn => ?_, fun n hge => ?_, ?_⟩
  · rcases List.mem_cons.1 hj with rfl | hj
    · exact hi
    · exact N.sub j hj
  · rw [putA_get hnt]
    split
    · rename_i hd; exact (hv n hd.1 hd.2).symm
    · rename_i hd
      refine N.same n hlt fun ⟨a, oa, h1, h2, h3, h4⟩ => ?_
      by_cases e : a = i
      · subst e
        rw [ho] at h3; cases h3
        exact hd ⟨h4, hlt⟩
      · exact hn ⟨a, oa, h1, (fun x => (List.mem_cons.1 x).elim e h2), h3, h4⟩
  · rw [putA_get hnt, if_neg fun x => absurd x.2 (Nat.not_lt.2 hge)]
    exact N.out n hge
  · exact N.down.cons hir

/-- What the soaking leaves. -/
structure Soaked (ops : Array Oper) (nt : Nat) (s : List Nat) (t : TT) (s2 : List Nat) (m2 : Nat) (t2 : TT) : Prop where
  sub : ∀ i ∈ s, i ∈ s2
  quiet : ∀ i ∈ s2, i ∉ s → ∃ o, ops[i]? = some o ∧ quietOp o = true
  same : ∀ n, (¬ ∃ i o, i ∈ s2 ∧ i ∉ s ∧ ops[i]? = some o ∧ o.dst = some n ∧ n < nt) → t2.get n = t.get n
  cons : Cons s2 m2
  topo : Topo ops s2

theorem soakM_ok {P : Program} {O : Orc} {ext : Ext} {nt : Nat} (hnt : nt ≤ 60000) {ops : Array Oper} {h : AH} : ∀ {l : List Info}, (∀ x ∈ l, x ∈ infosOf ops) → ∀ {s : List Nat} {m : Nat} {t : TT} {s2 : List Nat} {m2 : Nat} {t2 : TT}, Cons s m → Topo ops s →
    soakM P O ext nt ops h l s m t = .ok (s2, m2, t2) → Soaked ops nt s t s2 m2 t2
  | [], _, s, m, t, s2, m2, t2, c, tp, he => by
    simp only [soakM] at he
    cases he
    exact ⟨fun i x => x, fun i x y => absurd x y, fun n _ => rfl, c, tp⟩
  | x :: l, hl, s, m, t, s2, m2, t2, c, tp, he => by
    have hl' : ∀ y ∈ l, y ∈ infosOf ops := fun y hy => hl y (List.mem_cons_of_mem _ hy)
    simp only [soakM] at he
    split at he
    · exact soakM_ok hnt hl' c tp he
    · rename_i hb
      rw [Bool.and_eq_true] at hb
      obtain ⟨i, o, ho, rfl⟩ := mem_infos.1 (hl x (List.mem_cons_self ..))
      dsimp only at hb he
      have hr := (can_iff c ho).1 hb.2
      have step : ∀ {v : AV} {s2 : List Nat} {m2 : Nat} {t2 : TT}, soakM P O ext nt ops h l (i :: s) (addM m i) (putA nt t o.dst v) = .ok (s2, m2, t2) → Soaked ops nt s t s2 m2 t2 := by
        intro v s2 m2 t2 he
        have S := soakM_ok hnt hl' (c.add (i := i)) (show Topo ops (i :: s) from ⟨hr, tp⟩) he
        refine ⟨fun j hj => S.sub j (List.mem_cons_of_mem _ hj), fun j hj hn => ?_, fun n hn => ?_, S.cons, S.topo⟩
        · by_cases e : j = i
          · subst e; exact ⟨o, ho, hb.1⟩
          · exact S.quiet j hj fun x => (List.mem_cons.1 x).elim e hn
        · rw [S.same n fun ⟨j, oj, h1, h2, h3, h4, h5⟩ => hn ⟨j, oj, h1, fun x => h2 (List.mem_cons_of_mem _ x), h3, h4, h5⟩, putA_get hnt]
          refine if_neg fun ⟨h4, h5⟩ => hn ⟨i, o, S.sub i (List.mem_cons_self ..), (readyIn_mem hr).2, ho, h4, h5⟩
      split at he
      · cases he
      · exact step he
      · split at he
        · exact step he
        · cases he
        · cases he

/-- One that is not quiet is drawn, and the rest is soaked. -/
theorem Near.next {ops : Array Oper} {nt : Nat} (hnt : nt ≤ 60000) {s r : List Nat} {t tr : TT} (N : Near ops nt s r t tr) {j : Nat} {o : Oper} (ho : ops[j]? = some o) (hj : j ∉ s) (hjr : j ∈ readyIn ops r) {v : AV} {s2 : List Nat} {m2 : Nat} {t2 : TT}
    (S : Soaked ops nt (j :: s) (putA nt t o.dst v) s2 m2 t2) : Near ops nt s2 (j :: r) t2 (putA nt tr o.dst v) := by
  have hsub : ∀ i ∈ j :: r, i ∈ j :: s := fun i hi => by
    rcases List.mem_cons.1 hi with rfl | hi
    · exact List.mem_cons_self ..
    · exact List.mem_cons_of_mem _ (N.sub i hi)
  have same2 : ∀ n, (¬ ∃ i o, i ∈ s2 ∧ i ∉ j :: r ∧ ops[i]? = some o ∧ o.dst = some n ∧ n < nt) → t2.get n = (putA nt t o.dst v).get n := fun n hn =>
    S.same n fun ⟨i, oi, h1, h2, h3, h4, h5⟩ => hn ⟨i, oi, h1, fun x => h2 (hsub i x), h3, h4, h5⟩
  refine ⟨fun i hi => S.sub i (hsub i hi), fun i hi hn => ?_, fun n hlt hn => ?_, fun n hge => ?_, N.down.cons hjr⟩
  · by_cases e : i ∈ j :: s
    · rcases List.mem_cons.1 e with rfl | e
      · exact absurd (List.mem_cons_self ..) hn
      · exact N.quiet i e fun x => hn (List.mem_cons_of_mem _ x)
    · exact S.quiet i hi e
  · rw [same2 n fun ⟨i, oi, h1, h2, h3, h4, h5⟩ => hn ⟨i, oi, h1, h2, h3, h4⟩, putA_get hnt, putA_get hnt]
    split
    · rfl
    · refine N.same n hlt fun ⟨a, oa, h1, h2, h3, h4⟩ => hn ⟨a, oa, S.sub a (List.mem_cons_of_mem _ h1), (fun x => ?_), h3, h4⟩
      rcases List.mem_cons.1 x with rfl | x
      · exact hj h1
      · exact h2 x
  · rw [same2 n fun ⟨i, oi, h1, h2, h3, h4, h5⟩ => absurd h5 (Nat.not_lt.2 hge), putA_get hnt, putA_get hnt, if_neg fun x => absurd x.2 (Nat.not_lt.2 hge), if_neg fun x => absurd x.2 (Nat.not_lt.2 hge)]
    exact N.out n hge

theorem Near.begin {ops : Array Oper} {nt : Nat} {t : TT} {s2 : List Nat} {m2 : Nat} {t2 : TT} (S : Soaked ops nt [] t s2 m2 t2) : Near ops nt s2 [] t2 t :=
  ⟨(fun i hi => by cases hi), fun i hi hn => S.quiet i hi hn, fun n hlt hn => (S.same n fun ⟨i, oi, h1, h2, h3, h4, h5⟩ => hn ⟨i, oi, h1, h2, h3, h4⟩).symm, fun n hge => (S.same n fun ⟨i, oi, h1, h2, h3, h4, h5⟩ => absurd h5 (Nat.not_lt.2 hge)).symm, fun i hi => by cases hi⟩

/-- All have been drawn. -/
theorem Near.over {ops : Array Oper} {nt : Nat} {s r : List Nat} {t tr : TT} (N : Near ops nt s r t tr) (tp : Topo ops s) (hr : readyIn ops r = []) : (∀ i ∈ s, i ∈ r) ∧ readyIn ops s = [] ∧ ∀ n, tr.get n = t.get n := by
  have hall : ∀ i ∈ s, i ∈ r := fun i hi => Classical.byContradiction fun hn => by
    obtain ⟨j, _, hj⟩ := tp.ready ⟨i, hi, hn⟩
    rw [hr] at hj; cases hj
  refine ⟨hall, ?_, fun n => ?_⟩
  · rw [readyIn_congr (b := r) fun i => ⟨hall i, N.sub i⟩]; exact hr
  · rcases Nat.lt_or_ge n nt with hlt | hge
    · exact N.same n hlt fun ⟨i, o, h1, h2, _⟩ => h2 (hall i h1)
    · exact N.out n hge

theorem holdsQ_ok {P : Program} {O : Orc} {ext : Ext} {nt : Nat} {ops : Array Oper} {m : Nat} {t : TT} {h : AH} : ∀ {l : List Info}, holdsQ P O ext nt ops m t h l = true → ∀ x ∈ l, x.2.2.2 = true → inM m x.1 = true →
    ∃ v, (wantedA O ops t x.2.1 = .ok false ∧ v = undefA ∨ wantedA O ops t x.2.1 = .ok true ∧ ∃ h', op? P O ext h (evalA t) x.2.1 = .ok (.value v, h')) ∧ ∀ d, x.2.1.dst = some d → d < nt → t.get d = v
  | [], _, x, hx, _, _ => by cases hx
  | y :: l, he, x, hx, hq, hm => by
    simp only [holdsQ, Bool.and_eq_true] at he
    have put : ∀ {v : AV}, dstIs nt t x.2.1.dst v = true → ∀ d, x.2.1.dst = some d → d < nt → t.get d = v := by
      intro v hd d hdd hlt
      unfold dstIs at hd
      rw [hdd] at hd
      dsimp only at hd
      have h2 : Nat.ble (d + 1) nt = true := Nat.ble_eq_true_of_le (Nat.succ_le_of_lt hlt)
      rw [h2] at hd
      exact AV.eqb_eq _ _ hd
    rcases List.mem_cons.1 hx with rfl | hx
    · have h1 := he.1
      rw [hq, hm] at h1
      simp only [Bool.and_self] at h1
      split at h1
      · cases h1
      · rename_i hw; exact ⟨_, .inl ⟨hw, rfl⟩, put h1⟩
      · rename_i hw
        split at h1
        · rename_i v h' hop; exact ⟨v, .inr ⟨hw, h', hop⟩, put h1⟩
        · cases h1
    · exact holdsQ_ok he.2 x hx hq hm
end Go.Proofs.YtmnahfonnljobaaGreatDoor.SX
/-
  A drawn region as a whole; every step; runs.
-/
set_option linter.unusedSectionVars false
set_option linter.unusedVariables false
set_option linter.unusedSimpArgs false
namespace Go.Proofs.YtmnahfonnljobaaGreatDoor.SX
open Go.Conc

section
variable {K : Ctx} {main : Bool} {nt : Nat} {ops : Array Oper}

theorem Next.before {U : Nat → Prop} {ρ ρ' : Env} {cs : List Frame} {w w' w'' : World} {h0 : AH} {c : ACfg} {g'' : Goroutine} (A : Agree U ρ ρ') (k : Keeps K.own w w') (n : Next K U ρ' cs w' h0 c g'' w'') : Next K U ρ cs w h0 c g'' w'' := by
  obtain ⟨ρ'', a1, a2, a3, a4, a5⟩ := n
  exact ⟨ρ'', A.trans a1 (fun _ x => x), k.trans a2, a3, a4, a5⟩

theorem Next.grow {U : Nat → Prop} {ρ ρ' : Env} {cs : List Frame} {w w' w'' : World} {h0 h1 : AH} {c : ACfg} {g'' : Goroutine} (A : Agree U ρ ρ') (k : Keeps K.own w w') (gr : Grows K U h0 h1)
    (n : Next K (plus U h0.nb h1.nb) ρ' cs w' h1 c g'' w'') : Next K U ρ cs w h0 c g'' w'' := by
  obtain ⟨ρ'', a1, a2, a3, a4, a5⟩ := n
  exact ⟨ρ'', A.trans a1 plus_sub, k.trans a2, gr.trans a3, a4.congr fun n => plus_plus gr.nb a3.nb n, a5⟩

theorem ARNext.before {U : Nat → Prop} {ρ ρ' : Env} {cs : List Frame} {w w' w'' : World} {h0 : AH} {fn : FuncId} {todo : List Item} {defers : List AD} {kind : CallKind} {callers : List AFrame} {r : AR} {g'' : Goroutine} (A : Agree U ρ ρ') (k : Keeps K.own w w')
    (n : ARNext K U ρ' cs w' h0 fn nt todo defers kind callers r g'' w'') : ARNext K U ρ cs w h0 fn nt todo defers kind callers r g'' w'' := by
  cases r with
  | on t h => exact Next.before A k n
  | panic t c h => exact fun td => Next.before A k (n td)

theorem ARNext.grow {U : Nat → Prop} {ρ ρ' : Env} {cs : List Frame} {w w' w'' : World} {h0 h1 : AH} {fn : FuncId} {todo : List Item} {defers : List AD} {kind : CallKind} {callers : List AFrame} {r : AR} {g'' : Goroutine} (A : Agree U ρ ρ') (k : Keeps K.own w w') (gr : Grows K U h0 h1)
    (n : ARNext K (plus U h0.nb h1.nb) ρ' cs w' h1 fn nt todo defers kind callers r g'' w'') : ARNext K U ρ cs w h0 fn nt todo defers kind callers r g'' w'' := by
  cases r with
  | on t h => exact Next.grow A k gr n
  | panic t c h => exact fun td => Next.grow A k gr (n td)

def LvIds (K : Ctx) (U0 : Nat → Prop) (s : List Nat) (cur : AFrame) (callers : List AFrame) (h : AH) : Option AH → Prop
  | none => CIds K U0 ⟨cur, callers, h⟩
  | some h0 => Ids K U0 h0 ∧ CIds K (Us U0 h0 s) ⟨cur, callers, bare h⟩

theorem runLvls_ok (Gd : K.Good) (F : K.Facts) {ext : Ext} (X : ExtOk K ext) {call : FuncId → List AV → AH → M (AE × AH)} (C : CallOk K main call) (hops : ops.size ≤ 65536) :
    ∀ {n : Nat} {fork : Option AH} {L : Lvl} {r : AR}, runLvls K.P K.O ext call nt ops n fork L = .ok r →
      ∃ N, ∀ s t h, (s, t, h) ∈ L → ∀ {fn defers kind callers U0 ρ cs g w l k}, (∀ j ∈ s, j < ops.size) → Sched ops s l →
        LvIds K U0 s ⟨fn, nt, t, .inRegion ops l :: k, defers, .run, kind⟩ callers h fork → Gam K ρ ⟨⟨fn, nt, t, .inRegion ops l :: k, defers, .run, kind⟩, callers, h⟩ cs g w →
        Walk K.P main (DK K) (ARNext K U0 ρ cs w (fork.getD h) fn nt k defers kind callers r) N g w := by
  intro n
  induction n with
  | zero => intro fork L r he; simp only [runLvls] at he; cases he
  | succ n ih =>
    intro fork L r he
    simp only [runLvls] at he
    split at he
    · rename_i s t h h0
      obtain ⟨N, hN⟩ := ih he
      refine ⟨N, fun s' t' h' hm {fn defers kind callers U0 ρ cs g w l k} hb hs I Γ => ?_⟩
      cases List.mem_singleton.1 hm
      obtain ⟨I0, I⟩ := I
      have hst : ops.size * stride h0 ≤ h0.lim - h0.nb := Nat.le_trans (Nat.mul_le_mul_right _ hops) (Nat.mul_div_le _ _)
      have hI : CIds K (plus U0 h0.nb (rangeBack h0 ops.size h).nb) ⟨⟨fn, nt, t, .inRegion ops l :: k, defers, .run, kind⟩, callers, rangeBack h0 ops.size h⟩ := by
        refine I.lax rfl (fun m x => ?_) fun m x1 x2 x3 => ?_
        · rcases x with x | ⟨j, j1, j2, j3⟩
          · exact .inl x
          · refine .inr ⟨by omega, Nat.lt_of_lt_of_le j3 (Nat.add_le_add_left (Nat.mul_le_mul_right _ (hb j j1)) _)⟩
        · have hx1 : h0.nb + ops.size * stride h0 ≤ m := x1
          rcases x3 with x | x
          · exact I0.fresh m (by omega) x2 x
          · have := x.2; exact absurd this (Nat.not_lt.2 x1)
      have gr : Grows K U0 h0 (rangeBack h0 ops.size h) := ⟨Nat.le_add_right _ _, rfl, hI.ids⟩
      have := hN s t _ (List.mem_singleton.2 rfl) hb hs hI (Γ.hp rfl)
      exact this.weaken fun g' w' x => ARNext.grow (Agree.refl _ _) (Keeps.refl _ _) gr x
    · rename_i s t h
      split at he
      · rename_i hr
        cases he
        refine ⟨1, fun s' t' h' hm {fn defers kind callers U0 ρ cs g w l k} hb hs I Γ => ?_⟩
        cases List.mem_singleton.1 hm
        cases l with
        | cons i l => have := hs.1; rw [hr] at this; cases this
        | nil => exact leads_to (fun ρ tm w cs R T b ds => stR_region_end) U0 ρ cs g w I Γ
      · rename_i i hr
        have front : ∀ {l}, Sched ops s l → ∃ l', l = i :: l' ∧ Sched ops (i :: s) l' := fun {l} hs => by
          cases l with
          | nil => have : readyIn ops s = [] := hs; rw [hr] at this; cases this
          | cons j l =>
            have := hs.1
            rw [hr] at this
            obtain rfl := List.mem_singleton.1 this
            exact ⟨l, rfl, hs.2⟩
        have hi : i < ops.size := (readyIn_mem (s := s) (by rw [hr]; exact List.mem_singleton.2 rfl)).1
        split at he
        · cases he
        · rename_i t' c h' hop
          cases he
          obtain ⟨N, hN⟩ := opFull_ok Gd F X C hop
          refine ⟨N, fun s' t' h' hm {fn defers kind callers U0 ρ cs g w l k} hb hs I Γ => ?_⟩
          cases List.mem_singleton.1 hm
          obtain ⟨l', rfl, hs'⟩ := front hs
          exact hN I Γ
        · rename_i t' h' hop
          obtain ⟨N, hN⟩ := opFull_ok Gd F X C hop
          obtain ⟨M, hM⟩ := ih he
          refine ⟨N + M, fun s' t2 h2 hm {fn defers kind callers U0 ρ cs g w l k} hb hs I Γ => ?_⟩
          cases List.mem_singleton.1 hm
          obtain ⟨l', rfl, hs'⟩ := front hs
          refine Walk.trans (fun g' w' nx => ?_) (hN I Γ)
          obtain ⟨ρ', a1, a2, a3, a4, a5⟩ := nx
          refine (hM (i :: s) t' h' (List.mem_singleton.2 rfl) ?_ hs' a4 a5).weaken fun g2 w2 x => ARNext.grow a1 a2 a3 x
          intro j hj
          rcases List.mem_cons.1 hj with rfl | hj
          · exact hi
          · exact hb j hj
      · rename_i hn1 hn2
        split at he
        · rename_i L' hst
          obtain ⟨_, N, hN⟩ := stepOne_ok Gd F X C hops hst
          obtain ⟨M, hM⟩ := ih he
          refine ⟨N + M, fun s' t2 h2 hm {fn defers kind callers U0 ρ cs g w l k} hb hs I Γ => ?_⟩
          cases List.mem_singleton.1 hm
          cases l with
          | nil => exact absurd hs hn1
          | cons i l =>
            obtain ⟨hi1, hi2⟩ := readyIn_mem hs.1
            have I' : CIds K U0 ⟨⟨fn, nt, t, .inRegion ops (i :: l) :: k, defers, .run, kind⟩, callers, h⟩ := I
            refine Walk.trans (fun g' w' fk => ?_) (hN i hs.1 hi1 hi2 I'.ids (I'.lax rfl (fun n x => .inl x) fun n x1 x2 => by simp [bare] at x2) Γ)
            obtain ⟨s', t', h', b1, b2, ρ', b3, b4, b5, b6⟩ := fk
            refine (hM s' t' h' b1 (fun j hj => ?_) (hs.2.congr b2) ⟨I'.ids, b5⟩ b6).weaken fun g2 w2 x => ARNext.before b3 b4 x
            rcases List.mem_cons.1 ((b2 j).2 hj) with rfl | hj
            · exact hi1
            · exact hb j hj
        · cases he
    · rename_i h0 hn
      split at he
      · rename_i L' hst
        obtain ⟨_, N, hN⟩ := stepLvl_ok Gd F X C hops hst
        obtain ⟨M, hM⟩ := ih he
        refine ⟨N + M, fun s' t2 h2 hm {fn defers kind callers U0 ρ cs g w l k} hb hs I Γ => ?_⟩
        obtain ⟨c1, c2⟩ := hN s' t2 h2 hm
        cases l with
        | nil => exact absurd hs c1
        | cons i l =>
          obtain ⟨hi1, hi2⟩ := readyIn_mem hs.1
          obtain ⟨I0, I⟩ := I
          refine Walk.trans (fun g' w' fk => ?_) (c2 i hs.1 I0 I Γ)
          obtain ⟨s', t', h', b1, b2, ρ', b3, b4, b5, b6⟩ := fk
          refine (hM s' t' h' b1 (fun j hj => ?_) (hs.2.congr b2) ⟨I0, b5⟩ b6).weaken fun g2 w2 x => ARNext.before b3 b4 x
          rcases List.mem_cons.1 ((b2 j).2 hj) with rfl | hj
          · exact hi1
          · exact hb j hj
      · cases he
    · cases he

/-! ### The steps of a frame that runs -/
theorem stepG_inScope {P : Program} {b : Frame} {a : Act} {k : List Item} {cs : List Frame} {w : World} {c : Code} : stepG P main (G (b.at a (.inScope c :: k)) cs) w = .go (G (b.at a k) cs) w := by simp [G, stepG, stepG.exec, Frame.at]
theorem stepG_scope {P : Program} {b : Frame} {a : Act} {k : List Item} {cs : List Frame} {w : World} {c : Code} : stepG P main (G (b.at a (.code (.scope c) :: k)) cs) w = .go (G (b.at a (.code c :: .inScope c :: k)) cs) w := by simp [G, stepG, stepG.exec, Frame.at]
theorem stepG_goto {P : Program} {b : Frame} {a : Act} {k k' : List Item} {cs : List Frame} {w : World} {l : Nat} (h : gotoIn l k = some k') : stepG P main (G (b.at a (.code (.goto l) :: k)) cs) w = .go (G (b.at a k') cs) w := by simp [G, stepG, stepG.exec, Frame.at, h]

theorem stepG_drawn {P : Program} {b : Frame} {a : Act} {k : List Item} {cs : List Frame} {w : World} {id : Nat} (hm : P.follows .mixedOrders = true) :
    ∃ d t, stepG P main (G (b.at a (.code (.region id ops true) :: k)) cs) w = .go (G (b.at a (.inRegion ops (Region.schedule true ops t) :: k)) cs) (drawnAt w d) := by
  have hq : wq P (fun _ => True) (fun _ _ => False) (choose (.order b.fn id)) (fun t w' => ∃ d, w' = drawnAt w d) w := by
    rw [wq_choose]
    split
    · exact ⟨w.drawn, rfl⟩
    · exact fun n => ⟨w.drawn + 1, rfl⟩
  have := (wq_run hq).1
  generalize hr : (choose (.order b.fn id)).run P w = r at this
  cases r with
  | ok t w' =>
    obtain ⟨d, rfl⟩ := this
    exact ⟨d, t, by simp [G, stepG, stepG.exec, Frame.at, hr, hm]⟩
  | halt x w' => cases x <;> exact this.elim

theorem draw_step (F : K.Facts) {tmps : TT} {h : AH} {id : Nat} {fn : FuncId} {defers : List AD} {kind : CallKind} {callers : List AFrame} {ρ : Env} {cs : List Frame} {g : Goroutine} {w : World} {k : List Item}
    (Γ : Gam K ρ ⟨⟨fn, nt, tmps, .code (.region id ops true) :: k, defers, .run, kind⟩, callers, h⟩ cs g w) :
    Walk K.P main (DK K) (fun g' w' => ∃ t, Keeps K.own w w' ∧ Gam K ρ ⟨⟨fn, nt, tmps, .inRegion ops (Region.schedule true ops t) :: k, defers, .run, kind⟩, callers, h⟩ cs g' w') 1 g w := by
  refine Walk.one Γ.running fun d => ?_
  obtain ⟨R, tm, frs, h1, h2, h3, hc, rfl⟩ := gam_run.1 (Γ.drawn d)
  obtain ⟨d', t, e⟩ := stR_drawn (main := main) (ops := ops) (b := bB ρ fn kind) (a := aB ρ kind tm defers) (k := k) (cs := frs ++ cs) (w := drawnAt w d) (id := id) F.mixed
  rw [e]
  exact ⟨⟨⟨fun _ _ => rfl, Nat.le_refl _, rfl, rfl, rfl⟩, fun e he => (by simp at he), fun _ _ _ _ x => x⟩, t, ⟨fun _ _ => rfl, Nat.le_refl _, rfl, rfl, rfl⟩, gam_run.2 ⟨R.at rfl, tm, frs, h1, h2, h3, hc, rfl⟩⟩

theorem drawnOld_ok (Gd : K.Good) (F : K.Facts) {ext : Ext} (X : ExtOk K ext) {call : FuncId → List AV → AH → M (AE × AH)} (C : CallOk K main call) {tmps : TT} {h : AH} {r : AR} {id : Nat} (he : drawnOld K.P K.O ext call nt ops tmps h = .ok r) :
    ∃ N, ∀ {fn defers kind callers U ρ cs g w k}, CIds K U ⟨⟨fn, nt, tmps, .code (.region id ops true) :: k, defers, .run, kind⟩, callers, h⟩ → Gam K ρ ⟨⟨fn, nt, tmps, .code (.region id ops true) :: k, defers, .run, kind⟩, callers, h⟩ cs g w →
      Walk K.P main (DK K) (ARNext K U ρ cs w h fn nt k defers kind callers r) N g w := by
  unfold drawnOld at he
  split at he
  · rename_i hops
    obtain ⟨N, hN⟩ := runLvls_ok Gd F X C hops he
    refine ⟨1 + N, fun {fn defers kind callers U ρ cs g w k} I Γ => ?_⟩
    have hs := draw_step (main := main) F Γ
    refine Walk.trans (fun g' w' ⟨t, kp, Γ'⟩ => ?_) hs
    refine (hN [] tmps h (List.mem_singleton.2 rfl) (fun j hj => by cases hj) (schedule_sched ops t) (U0 := U) ⟨⟨I.cur.tmps, I.cur.defers, trivial⟩, I.callers, I.ids⟩ Γ').weaken fun g2 w2 x => ARNext.before (Agree.refl _ _) kp x
  · cases he
end

section
variable {K : Ctx} {main : Bool} {nt : Nat} {ops : Array Oper}

theorem gam_tt {ρ : Env} {fn : FuncId} {t t' : TT} {todo : List Item} {defers : List AD} {mode : AMode} {kind : CallKind} {callers : List AFrame} {h : AH} {cs : List Frame} {g : Goroutine} {w : World} (e : ∀ n, t'.get n = t.get n)
    (Γ : Gam K ρ ⟨⟨fn, nt, t', todo, defers, mode, kind⟩, callers, h⟩ cs g w) : Gam K ρ ⟨⟨fn, nt, t, todo, defers, mode, kind⟩, callers, h⟩ cs g w := by
  obtain ⟨R, fr, frs, ⟨tm, td, is, rfl⟩, hc, rfl⟩ := Γ
  exact ⟨R, _, frs, ⟨tm, td, ⟨⟨is.tmps.size, is.tmps.le, fun n hn => by rw [is.tmps.get n hn, e], fun n hn => by rw [← e]; exact is.tmps.out n hn⟩, is.kind, is.todo, is.fn⟩, rfl⟩, hc, rfl⟩

theorem cids_tt {U : Nat → Prop} {fn : FuncId} {t t' : TT} {todo : List Item} {defers : List AD} {mode : AMode} {kind : CallKind} {callers : List AFrame} {h : AH} (e : ∀ n, t'.get n = t.get n)
    (I : CIds K U ⟨⟨fn, nt, t', todo, defers, mode, kind⟩, callers, h⟩) : CIds K U ⟨⟨fn, nt, t, todo, defers, mode, kind⟩, callers, h⟩ :=
  ⟨⟨fun n => by have := I.cur.tmps n; rw [e] at this; exact this, I.cur.defers, I.cur.mode⟩, I.callers, I.ids⟩

theorem gam_nt {ρ : Env} {fn : FuncId} {t : TT} {todo : List Item} {defers : List AD} {mode : AMode} {kind : CallKind} {callers : List AFrame} {h : AH} {cs : List Frame} {g : Goroutine} {w : World} (Γ : Gam K ρ ⟨⟨fn, nt, t, todo, defers, mode, kind⟩, callers, h⟩ cs g w) : nt ≤ 60000 := by
  obtain ⟨R, fr, frs, ⟨tm, td, is, rfl⟩, hc, rfl⟩ := Γ
  exact is.tmps.le

/-- Where the pending ones have been drawn that come first. -/
def PendPost (K : Ctx) (nt : Nat) (ops : Array Oper) (U : Nat → Prop) (s : List Nat) (t : TT) (h : AH) (ρ : Env) (cs : List Frame) (w : World) (fn : FuncId) (k : List Item) (defers : List AD) (kind : CallKind) (callers : List AFrame) (g' : Goroutine) (w' : World) : Prop :=
  ∃ r' tr' l' ρ', Near ops nt s r' t tr' ∧ Sched ops r' l' ∧ Agree U ρ ρ' ∧ Keeps K.own w w' ∧ CIds K U ⟨⟨fn, nt, tr', .inRegion ops l' :: k, defers, .run, kind⟩, callers, bare h⟩ ∧ Gam K ρ' ⟨⟨fn, nt, tr', .inRegion ops l' :: k, defers, .run, kind⟩, callers, h⟩ cs g' w' ∧
    (l' = [] ∨ ∃ i l'', l' = i :: l'' ∧ i ∉ s)

theorem pend (Gd : K.Good) (F : K.Facts) {ext : Ext} (X : ExtOk K ext) {call : FuncId → List AV → AH → M (AE × AH)} (C : CallOk K main call) (hok : regionOk ops (infosOf ops) = true) {s : List Nat} {m : Nat} {t : TT} {h : AH} (hc : Cons s m)
    (hq : holdsQ K.P K.O ext nt ops (remM (infosOf ops) m) t (bare h) (infosOf ops) = true) {U : Nat → Prop} {cs : List Frame} {fn : FuncId} {k : List Item} {defers : List AD} {kind : CallKind} {callers : List AFrame} :
    ∀ {l r : List Nat} {tr : TT} {ρ : Env} {g : Goroutine} {w : World}, Near ops nt s r t tr → Sched ops r l → CIds K U ⟨⟨fn, nt, tr, .inRegion ops l :: k, defers, .run, kind⟩, callers, bare h⟩ →
      Gam K ρ ⟨⟨fn, nt, tr, .inRegion ops l :: k, defers, .run, kind⟩, callers, h⟩ cs g w → Walk K.P main (DK K) (PendPost K nt ops U s t h ρ cs w fn k defers kind callers) 0 g w
  | [], r, tr, ρ, g, w, N, sc, I, Γ => Walk.stop ⟨r, tr, [], ρ, N, sc, Agree.refl _ _, Keeps.refl _ _, I, Γ, .inl rfl⟩
  | i :: l, r, tr, ρ, g, w, N, sc, I, Γ => by
    by_cases hi : i ∈ s
    · obtain ⟨hir, hsc⟩ := sc
      obtain ⟨_, o, ho, _⟩ := ready_iff.1 hir
      obtain ⟨o', ho', hqo⟩ := N.quiet i hi (readyIn_mem hir).2
      rw [ho] at ho'; cases ho'
      obtain ⟨v, hv, hd⟩ := holdsQ_ok hq _ (mem_infos.2 ⟨i, o, ho, rfl⟩) hqo (N.rem hc hi (readyIn_mem hir).2)
      have al := N.alike hok ho hir
      have hop : opFull K.P K.O ext call nt ops i tr (bare h) = .ok (.on (putA nt tr o.dst v) (bare h)) := opFull_quiet ho hqo (by
        rcases hv with ⟨a, b⟩ | ⟨a, h', b⟩
        · exact .inl ⟨by rw [al.wanted]; exact a, b⟩
        · exact .inr ⟨by rw [al.wanted]; exact a, h', by rw [op?_congr al.eval]; exact b⟩)
      obtain ⟨M, hM⟩ := opFull_ok Gd F X C hop
      refine (Walk.trans (m := 0) (fun g' w' nx => ?_) (hM I (Γ.hp rfl))).any
      obtain ⟨ρ', a1, a2, a3, a4, a5⟩ := nx
      have I' := a4.congr (U' := U) fun n => (plus_same U _ n).symm
      refine (pend Gd F X C hok hc hq (N.drawn (gam_nt Γ) ho hi hir hd) hsc I' (a5.hp rfl)).weaken fun g2 w2 p => ?_
      obtain ⟨r', tr', l', ρ2, b1, b2, b3, b4, b5⟩ := p
      exact ⟨r', tr', l', ρ2, b1, b2, a1.trans b3 (fun _ x => x), a2.trans b4, b5⟩
    · exact Walk.stop ⟨r, tr, i :: l, ρ, N, sc, Agree.refl _ _, Keeps.refl _ _, I, Γ, .inr ⟨i, l, rfl, hi⟩⟩

def GoodM (ops : Array Oper) (L : LvlM) : Prop := ∀ e ∈ L, Cons e.1 e.2.1 ∧ Topo ops e.1

theorem putLvlM_ok {s : List Nat} {m : Nat} {t : TT} {h : AH} : ∀ {L L' : LvlM}, putLvlM s m t h L = .ok L' → (∀ e ∈ L, e ∈ L') ∧ (GoodM ops L → Cons s m → Topo ops s → GoodM ops L') ∧ ∃ s' h', (s', m, t, h') ∈ L' ∧ h'.hp = h.hp
  | [], L', he => by
    simp only [putLvlM] at he
    cases he
    refine ⟨(fun e x => by cases x), fun _ a b e he => ?_, s, h, List.mem_singleton.2 rfl, rfl⟩
    cases List.mem_singleton.1 he
    exact ⟨a, b⟩
  | (s', m', t', h') :: L, L', he => by
    simp only [putLvlM] at he
    split at he
    · rename_i hs
      obtain rfl := Nat.eq_of_beq_eq_true hs
      split at he
      · rename_i hq
        cases he
        simp only [Bool.and_eq_true] at hq
        obtain rfl := TT.eqb_eq hq.1
        exact ⟨fun e x => x, fun a _ _ => a, s', h', List.mem_cons_self .., (hpEqb_eq hq.2).symm⟩
      · cases he
    · split at he
      · rename_i l hl
        cases he
        obtain ⟨a, ag, s2, h2, b, c⟩ := putLvlM_ok (L := L) hl
        refine ⟨fun e x => ?_, fun g1 g2 g3 e x => ?_, s2, h2, List.mem_cons_of_mem _ b, c⟩
        · rcases List.mem_cons.1 x with rfl | x
          · exact List.mem_cons_self ..
          · exact List.mem_cons_of_mem _ (a e x)
        · rcases List.mem_cons.1 x with rfl | x
          · exact g1 _ (List.mem_cons_self ..)
          · exact ag (fun e he => g1 e (List.mem_cons_of_mem _ he)) g2 g3 e x
      · cases he

theorem oneM_ok {P : Program} {O : Orc} {ext : Ext} {call : FuncId → List AV → AH → M (AE × AH)} {infos : List Info} {s : List Nat} {m : Nat} {t : TT} {h : AH} {i : Nat} {s2 : List Nat} {m2 : Nat} {t2 : TT} {h1 : AH}
    (he : oneM P O ext call nt ops infos s m t h i = .ok (s2, m2, t2, h1)) : ∃ t1, opFull P O ext call nt ops i t h = .ok (.on t1 h1) ∧ soakM P O ext nt ops (bare h1) infos (i :: s) (addM m i) t1 = .ok (s2, m2, t2) := by
  unfold oneM at he
  split at he
  · cases he
  · cases he
  · rename_i t1 h1' hop
    split at he
    · cases he
    · rename_i hs
      cases he
      exact ⟨t1, hop, hs⟩

/-- What a step of the level has made of operation i. -/
def MadeM (P : Program) (O : Orc) (ext : Ext) (call : FuncId → List AV → AH → M (AE × AH)) (nt : Nat) (ops : Array Oper) (h0 : AH) (s : List Nat) (m : Nat) (t : TT) (h : AH) (i : Nat) (L' : LvlM) : Prop :=
  ∃ t1 h1 s2 m2 t2 s' h', opFull P O ext call nt ops i t (rangeFor h0 i h) = .ok (.on t1 h1) ∧ h1.nb ≤ h1.lim ∧ soakM P O ext nt ops (bare h1) (infosOf ops) (i :: s) (addM m i) t1 = .ok (s2, m2, t2) ∧ (s', m2, t2, h') ∈ L' ∧ h'.hp = h1.hp

theorem stepOneM_ok {P : Program} {O : Orc} {ext : Ext} {call : FuncId → List AV → AH → M (AE × AH)} (hnt : nt ≤ 60000) {h0 : AH} {s : List Nat} {m : Nat} {t : TT} {h : AH} (hc : Cons s m) (tp : Topo ops s) :
    ∀ {js : List Info}, (∀ x ∈ js, x ∈ infosOf ops ∧ canM m x = true) → ∀ {L L' : LvlM}, stepOneM P O ext call nt ops (infosOf ops) h0 s m t h js L = .ok L' → (∀ e ∈ L, e ∈ L') ∧ (GoodM ops L → GoodM ops L') ∧ ∀ x ∈ js, MadeM P O ext call nt ops h0 s m t h x.1 L'
  | [], _, L, L', he => by
    simp only [stepOneM] at he
    cases he
    exact ⟨fun e x => x, fun g => g, fun x hx => by cases hx⟩
  | x :: js, hj, L, L', he => by
    simp only [stepOneM] at he
    split at he
    · cases he
    · rename_i s2 m2 t2 h1 hone
      split at he
      · rename_i hlim
        split at he
        · rename_i L1 hput
          obtain ⟨t1, hop, hso⟩ := oneM_ok hone
          obtain ⟨hx, hcan⟩ := hj x (List.mem_cons_self ..)
          obtain ⟨i, o, ho, rfl⟩ := mem_infos.1 hx
          have hr := (can_iff hc ho).1 hcan
          have S := soakM_ok hnt (fun _ x => x) (hc.add (i := i)) (show Topo ops (i :: s) from ⟨hr, tp⟩) hso
          obtain ⟨a1, a2, s', h', a3, a4⟩ := putLvlM_ok (ops := ops) hput
          obtain ⟨b1, b2, b3⟩ := stepOneM_ok hnt hc tp (fun y hy => hj y (List.mem_cons_of_mem _ hy)) he
          refine ⟨fun e x => b1 e (a1 e x), fun g => b2 (a2 g S.cons S.topo), fun y hy => ?_⟩
          rcases List.mem_cons.1 hy with rfl | hy
          · exact ⟨t1, h1, s2, m2, t2, s', h', hop, hlim, hso, b1 _ a3, a4⟩
          · exact b3 y hy
        · cases he
      · cases he

theorem stepLvlM_ok {P : Program} {O : Orc} {ext : Ext} {call : FuncId → List AV → AH → M (AE × AH)} (hnt : nt ≤ 60000) {h0 : AH} :
    ∀ {A : LvlM}, GoodM ops A → ∀ {L L' : LvlM}, stepLvlM P O ext call nt ops (infosOf ops) h0 A L = .ok L' → (∀ e ∈ L, e ∈ L') ∧ (GoodM ops L → GoodM ops L') ∧
      ∀ s m t h, (s, m, t, h) ∈ A → (infosOf ops).filter (canM m) ≠ [] ∧ ∀ x ∈ (infosOf ops).filter (canM m), MadeM P O ext call nt ops h0 s m t h x.1 L'
  | [], _, L, L', he => by
    simp only [stepLvlM] at he
    cases he
    exact ⟨fun e x => x, fun g => g, fun _ _ _ _ x => by cases x⟩
  | (s, m, t, h) :: A, gA, L, L', he => by
    simp only [stepLvlM] at he
    split at he
    · cases he
    · rename_i hne
      split at he
      · rename_i L1 h1
        obtain ⟨hc, tp⟩ := gA _ (List.mem_cons_self ..)
        obtain ⟨a1, a2, a3⟩ := stepOneM_ok hnt hc tp (fun x hx => by
          obtain ⟨p, q⟩ := List.mem_filter.1 hx
          exact ⟨p, q⟩) h1
        obtain ⟨b1, b2, b3⟩ := stepLvlM_ok hnt (fun e he => gA e (List.mem_cons_of_mem _ he)) he
        refine ⟨fun e x => b1 e (a1 e x), fun g => b2 (a2 g), fun s' m' t' h' hm => ?_⟩
        rcases List.mem_cons.1 hm with hq | hm
        · cases hq
          refine ⟨hne, fun x hx => ?_⟩
          obtain ⟨t1, h1, s2, m2, t2, s', h', c1, c2, c3, c4, c5⟩ := a3 x hx
          exact ⟨t1, h1, s2, m2, t2, s', h', c1, c2, c3, b1 _ c4, c5⟩
        · exact b3 s' m' t' h' hm
      · cases he

/-- Whoever is really drawn next, and has not been reckoned, can be reckoned now, and is not quiet. -/
theorem Near.head {s r : List Nat} {m : Nat} {t tr : TT} (N : Near ops nt s r t tr) (hc : Cons s m) {i : Nat} (hi : i ∈ readyIn ops r) (hn : i ∉ s) : ∃ o, ops[i]? = some o ∧ i ∈ readyIn ops s ∧ (i, o, predMask o.after.toList, quietOp o) ∈ (infosOf ops).filter (canM m) := by
  obtain ⟨_, o, ho, hp⟩ := ready_iff.1 hi
  have hr : i ∈ readyIn ops s := ready_iff.2 ⟨hn, o, ho, fun e he hb => N.sub _ (hp e he hb)⟩
  exact ⟨o, ho, hr, List.mem_filter.2 ⟨mem_infos.2 ⟨i, o, ho, rfl⟩, (can_iff hc ho).2 hr⟩⟩

/-- One that is not quiet, really drawn: from a state of a fork to one of the next level. -/
theorem fork_step (Gd : K.Good) (F : K.Facts) {ext : Ext} (X : ExtOk K ext) {call : FuncId → List AV → AH → M (AE × AH)} (C : CallOk K main call) (hops : ops.size ≤ 65536) (hok : regionOk ops (infosOf ops) = true) {h0 : AH} {s r : List Nat} {m : Nat} {t tr : TT} {h : AH} {i : Nat} {L' : LvlM}
    (hc : Cons s m) (tp : Topo ops s) (gL : GoodM ops L') (Md : MadeM K.P K.O ext call nt ops h0 s m t h i L') (N : Near ops nt s r t tr) (hi : i ∈ readyIn ops r) (hn : i ∉ s) {U0 : Nat → Prop} {ρ : Env} {cs : List Frame} {g : Goroutine} {w : World} {fn : FuncId} {l : List Nat} {k : List Item} {defers : List AD} {kind : CallKind} {callers : List AFrame}
    (I0 : Ids K U0 h0) (I : CIds K (Us U0 h0 s) ⟨⟨fn, nt, tr, .inRegion ops (i :: l) :: k, defers, .run, kind⟩, callers, bare h⟩) (Γ : Gam K ρ ⟨⟨fn, nt, tr, .inRegion ops (i :: l) :: k, defers, .run, kind⟩, callers, h⟩ cs g w) :
    Walk K.P main (DK K) (fun g' w' => ∃ s' m' t' h' tr' ρ', (s', m', t', h') ∈ L' ∧ Near ops nt s' (i :: r) t' tr' ∧ Agree U0 ρ ρ' ∧ Keeps K.own w w' ∧ CIds K (Us U0 h0 s') ⟨⟨fn, nt, tr', .inRegion ops l :: k, defers, .run, kind⟩, callers, bare h'⟩ ∧
      Gam K ρ' ⟨⟨fn, nt, tr', .inRegion ops l :: k, defers, .run, kind⟩, callers, h'⟩ cs g' w') 0 g w := by
  obtain ⟨t1, h1, s2, m2, t2, s', h', c1, c2, c3, c4, c5⟩ := Md
  obtain ⟨o, ho, hr, _⟩ := N.head hc hi hn
  have hnt := gam_nt Γ
  obtain ⟨v, rfl, hop⟩ := opFull_alike ho (N.alike hok ho hi) c1
  have S := soakM_ok hnt (fun _ x => x) (hc.add (i := i)) (show Topo ops (i :: s) from ⟨hr, tp⟩) c3
  have hi1 := (readyIn_mem hr).1
  obtain ⟨M, hM⟩ := opFull_ok Gd F X C hop
  have I' : CIds K (Us U0 h0 s) ⟨⟨fn, nt, tr, .inRegion ops (i :: l) :: k, defers, .run, kind⟩, callers, rangeFor h0 i h⟩ :=
    I.lax rfl (fun n x => x) fun n x1 x2 => Us_fresh I0 (by omega) hn x1 x2
  have mem : ∀ j, j ∈ s2 ↔ j ∈ s' := fun j => ((S.cons j).symm).trans ((gL _ c4).1 j)
  refine ((hM I' (Γ.hp rfl)).weaken fun g' w' nx => ?_).any
  obtain ⟨ρ', a1, a2, a3, a4, a5⟩ := nx
  have NN := N.next hnt ho hn hi S
  have NN' : Near ops nt s' (i :: r) t2 (putA nt tr o.dst v) := ⟨fun j hj => (mem j).1 (NN.sub j hj), fun j hj hx => NN.quiet j ((mem j).2 hj) hx, fun n hlt hx => NN.same n hlt fun ⟨j, oj, x1, x2⟩ => hx ⟨j, oj, (mem j).1 x1, x2⟩, NN.out, NN.down⟩
  refine ⟨s', m2, t2, h', _, ρ', c4, NN', a1.mono (fun n x => .inl x), a2, ?_, a5.hp c5⟩
  refine a4.lax c5 (fun n x => ?_) fun n x1 x2 => by simp [bare] at x2
  rcases x with (x | ⟨q, q1, q2⟩) | x
  · exact .inl x
  · exact .inr ⟨q, (mem q).1 (S.sub q (List.mem_cons_of_mem _ q1)), q2⟩
  · have hl : h1.lim = (rangeFor h0 i h).lim := a3.lim
    refine .inr ⟨i, (mem i).1 (S.sub i (List.mem_cons_self ..)), x.1, ?_⟩
    have hl2 : h1.lim = h0.nb + (i + 1) * stride h0 := hl
    have hx := x.2
    dsimp only at hx
    omega

theorem runLvlsM_ok (Gd : K.Good) (F : K.Facts) {ext : Ext} (X : ExtOk K ext) {call : FuncId → List AV → AH → M (AE × AH)} (C : CallOk K main call) (hops : ops.size ≤ 65536) (hok : regionOk ops (infosOf ops) = true) (hnt : nt ≤ 60000) :
    ∀ {n : Nat} {fork : Option AH} {L : LvlM} {R : AR}, runLvlsM K.P K.O ext call nt ops (infosOf ops) n fork L = .ok R → GoodM ops L →
      ∀ s m t h, (s, m, t, h) ∈ L → ∀ {fn defers kind callers U0 ρ cs g w l k r tr}, Near ops nt s r t tr → Sched ops r l →
        LvIds K U0 s ⟨fn, nt, tr, .inRegion ops l :: k, defers, .run, kind⟩ callers h fork → Gam K ρ ⟨⟨fn, nt, tr, .inRegion ops l :: k, defers, .run, kind⟩, callers, h⟩ cs g w →
        Walk K.P main (DK K) (ARNext K U0 ρ cs w (fork.getD h) fn nt k defers kind callers R) 0 g w := by
  intro n
  induction n with
  | zero => intro fork L R he; simp only [runLvlsM] at he; cases he
  | succ n ih =>
    intro fork L R he gL
    simp only [runLvlsM] at he
    split at he
    · cases he
    rename_i hset
    rw [List.all_eq_true] at hset
    have hold : ∀ s m t h, (s, m, t, h) ∈ L → holdsQ K.P K.O ext nt ops (remM (infosOf ops) m) t (bare h) (infosOf ops) = true := fun s m t h hm => by
      have := hset _ hm
      unfold settled at this
      rw [Bool.and_eq_true] at this
      exact this.2
    split at he
    · rename_i s m t h h0
      intro s' m' t' h' hm fn defers kind callers U0 ρ cs g w l k r tr N sc I Γ
      cases List.mem_singleton.1 hm
      obtain ⟨I0, I⟩ := I
      obtain ⟨hc, tp⟩ := gL _ (List.mem_singleton.2 rfl)
      have hst : ops.size * stride h0 ≤ h0.lim - h0.nb := Nat.le_trans (Nat.mul_le_mul_right _ hops) (Nat.mul_div_le _ _)
      have hI : CIds K (plus U0 h0.nb (rangeBack h0 ops.size h).nb) ⟨⟨fn, nt, tr, .inRegion ops l :: k, defers, .run, kind⟩, callers, rangeBack h0 ops.size h⟩ := by
        refine I.lax rfl (fun m x => ?_) fun m x1 x2 x3 => ?_
        · rcases x with x | ⟨j, j1, j2, j3⟩
          · exact .inl x
          · refine .inr ⟨by omega, Nat.lt_of_lt_of_le j3 (Nat.add_le_add_left (Nat.mul_le_mul_right _ (tp.lt j j1)) _)⟩
        · have hx1 : h0.nb + ops.size * stride h0 ≤ m := x1
          rcases x3 with x | x
          · exact I0.fresh m (by omega) x2 x
          · have := x.2; exact absurd this (Nat.not_lt.2 x1)
      have gr : Grows K U0 h0 (rangeBack h0 ops.size h) := ⟨Nat.le_add_right _ _, rfl, hI.ids⟩
      have := ih he (fun e he => by cases List.mem_singleton.1 he; exact ⟨hc, tp⟩) s m t _ (List.mem_singleton.2 rfl) N sc hI (Γ.hp rfl)
      exact this.weaken fun g' w' x => ARNext.grow (Agree.refl _ _) (Keeps.refl _ _) gr x
    · rename_i s m t h
      intro s' m' t' h' hm fn defers kind callers U0 ρ cs g w l k r tr N sc I Γ
      cases List.mem_singleton.1 hm
      obtain ⟨hc, tp⟩ := gL _ (List.mem_singleton.2 rfl)
      have I1 : CIds K U0 ⟨⟨fn, nt, tr, .inRegion ops l :: k, defers, .run, kind⟩, callers, h⟩ := I
      have Wp := pend Gd F X C hok hc (hold _ _ _ _ (List.mem_singleton.2 rfl)) N sc (I1.lax (h' := bare h) rfl (fun n x => x) fun n x1 x2 => by simp [bare] at x2) Γ
      refine (Walk.trans (m := 0) (fun g1 w1 p => ?_) Wp).any
      obtain ⟨r1, tr1, l1, ρ1, N1, sc1, A1, kp1, Ib, Γ1, hl1⟩ := p
      have J1 : CIds K U0 ⟨⟨fn, nt, tr1, .inRegion ops l1 :: k, defers, .run, kind⟩, callers, h⟩ := ⟨Ib.cur, Ib.callers, I1.ids⟩
      split at he
      · rename_i hr
        cases he
        rcases hl1 with rfl | ⟨i, l2, rfl, hi⟩
        · obtain ⟨_, _, e⟩ := N1.over tp sc1
          have L1 := leads_to (K := K) (main := main) (fn := fn) (nt := nt) (tmps := t) (todo := .inRegion ops [] :: k) (todo' := k) (defers := defers) (kind := kind) (callers := callers) (h := h) (fun ρ tm w cs R T b ds => stR_region_end)
          exact ((L1 U0 ρ1 cs g1 w1 (cids_tt e J1) (gam_tt e Γ1)).weaken fun g2 w2 x => ARNext.before A1 kp1 (r := .on t h) x).any
        · obtain ⟨o, _, _, hx⟩ := N1.head hc sc1.1 hi
          rw [hr] at hx; cases hx
      · rename_i x hr
        split at he
        · cases he
        · rename_i e hone
          obtain ⟨s2, m2, t2, h2⟩ := e
          obtain ⟨t1, hop, hso⟩ := oneM_ok hone
          rcases hl1 with rfl | ⟨i, l2, rfl, hi⟩
          · obtain ⟨_, e, _⟩ := N1.over tp sc1
            have hx : x ∈ (infosOf ops).filter (canM m) := by rw [hr]; exact List.mem_singleton.2 rfl
            obtain ⟨p, q⟩ := List.mem_filter.1 hx
            obtain ⟨i, o, ho, rfl⟩ := mem_infos.1 p
            have := (can_iff hc ho).1 q
            rw [e] at this; cases this
          · obtain ⟨o, ho, hrs, hx⟩ := N1.head hc sc1.1 hi
            rw [hr] at hx
            obtain rfl := List.mem_singleton.1 hx
            dsimp only at hop hso
            obtain ⟨v, rfl, hop'⟩ := opFull_alike ho (N1.alike hok ho sc1.1) hop
            have S := soakM_ok hnt (fun _ x => x) (hc.add (i := i)) (show Topo ops (i :: s) from ⟨hrs, tp⟩) hso
            obtain ⟨M, hM⟩ := opFull_ok Gd F X C hop'
            refine (Walk.trans (m := 0) (fun g2 w2 nx => ?_) (hM J1 Γ1)).any
            obtain ⟨ρ2, a1, a2, a3, a4, a5⟩ := nx
            refine (ih he (fun e he => by cases List.mem_singleton.1 he; exact ⟨S.cons, S.topo⟩) s2 m2 t2 h2 (List.mem_singleton.2 rfl) (N1.next hnt ho hi sc1.1 S) sc1.2 a4 a5).weaken fun g3 w3 y => ?_
            exact ARNext.before A1 kp1 (ARNext.grow a1 a2 a3 y)
      · rename_i hn1 hn2
        split at he
        · rename_i L' hst
          obtain ⟨_, g2, hmade⟩ := stepOneM_ok hnt hc tp (fun x hx => by
            obtain ⟨p, q⟩ := List.mem_filter.1 hx
            exact ⟨p, q⟩) hst
          have gL' : GoodM ops L' := g2 fun e he => by cases he
          rcases hl1 with rfl | ⟨i, l2, rfl, hi⟩
          · obtain ⟨_, e, _⟩ := N1.over tp sc1
            refine absurd (List.eq_nil_iff_forall_not_mem.2 fun x hx => ?_) hn1
            obtain ⟨p, q⟩ := List.mem_filter.1 hx
            obtain ⟨i, o, ho, rfl⟩ := mem_infos.1 p
            have := (can_iff hc ho).1 q
            rw [e] at this; cases this
          · obtain ⟨o, ho, hrs, hx⟩ := N1.head hc sc1.1 hi
            have Md := hmade _ hx
            refine (Walk.trans (m := 0) (fun g2 w2 nx => ?_) (fork_step Gd F X C hops hok hc tp gL' Md N1 sc1.1 hi J1.ids (Ib.lax rfl (fun n x => .inl x) fun n x1 x2 => by simp [bare] at x2) Γ1)).any
            obtain ⟨s3, m3, t3, h3, tr3, ρ3, b1, b2, b3, b4, b5, b6⟩ := nx
            refine (ih he gL' s3 m3 t3 h3 b1 b2 sc1.2 ⟨J1.ids, b5⟩ b6).weaken fun g3 w3 y => ?_
            exact ARNext.before A1 kp1 (ARNext.before b3 b4 y)
        · cases he
    · rename_i h0 hn
      split at he
      · rename_i L' hst
        obtain ⟨_, g2, hmade⟩ := stepLvlM_ok hnt gL hst
        have gL' : GoodM ops L' := g2 fun e he => by cases he
        intro s m t h hm fn defers kind callers U0 ρ cs g w l k r tr N sc I Γ
        obtain ⟨hc, tp⟩ := gL _ hm
        obtain ⟨hne, hmade⟩ := hmade s m t h hm
        obtain ⟨I0, I⟩ := I
        have Wp := pend Gd F X C hok hc (hold _ _ _ _ hm) N sc I Γ
        refine (Walk.trans (m := 0) (fun g1 w1 p => ?_) Wp).any
        obtain ⟨r1, tr1, l1, ρ1, N1, sc1, A1, kp1, Ib, Γ1, hl1⟩ := p
        rcases hl1 with rfl | ⟨i, l2, rfl, hi⟩
        · obtain ⟨_, e, _⟩ := N1.over tp sc1
          refine absurd (List.eq_nil_iff_forall_not_mem.2 fun x hx => ?_) hne
          obtain ⟨p, q⟩ := List.mem_filter.1 hx
          obtain ⟨i, o, ho, rfl⟩ := mem_infos.1 p
          have := (can_iff hc ho).1 q
          rw [e] at this; cases this
        · obtain ⟨o, ho, hrs, hx⟩ := N1.head hc sc1.1 hi
          have Md := hmade _ hx
          refine (Walk.trans (m := 0) (fun g2 w2 nx => ?_) (fork_step Gd F X C hops hok hc tp gL' Md N1 sc1.1 hi I0 Ib Γ1)).any
          obtain ⟨s3, m3, t3, h3, tr3, ρ3, b1, b2, b3, b4, b5, b6⟩ := nx
          refine (ih he gL' s3 m3 t3 h3 b1 b2 sc1.2 ⟨I0, b5⟩ b6).weaken fun g3 w3 y => ?_
          exact ARNext.before (A1.mono fun n x => .inl x) kp1 (ARNext.before b3 b4 y)
      · cases he
    · cases he

theorem drawn_ok (Gd : K.Good) (F : K.Facts) {ext : Ext} (X : ExtOk K ext) {call : FuncId → List AV → AH → M (AE × AH)} (C : CallOk K main call) {tmps : TT} {h : AH} {r : AR} {id : Nat} (he : drawn K.P K.O ext call nt ops tmps h = .ok r) :
    ∃ N, ∀ {fn defers kind callers U ρ cs g w k}, CIds K U ⟨⟨fn, nt, tmps, .code (.region id ops true) :: k, defers, .run, kind⟩, callers, h⟩ → Gam K ρ ⟨⟨fn, nt, tmps, .code (.region id ops true) :: k, defers, .run, kind⟩, callers, h⟩ cs g w →
      Walk K.P main (DK K) (ARNext K U ρ cs w h fn nt k defers kind callers r) N g w := by
  unfold drawn at he
  split at he
  · exact drawnOld_ok Gd F X C he
  · rename_i hb
    rw [Bool.and_eq_true] at hb
    have hops : ops.size ≤ 65536 := Nat.le_of_ble_eq_true hb.1
    split at he
    · rename_i r' hm
      cases he
      refine ⟨0, fun {fn defers kind callers U ρ cs g w k} I Γ => ?_⟩
      unfold drawnM at hm
      split at hm
      · cases hm
      · rename_i s m t hso
        have hnt := gam_nt Γ
        have S := soakM_ok hnt (fun _ x => x) cons_nil (show Topo ops [] from trivial) hso
        refine (Walk.trans (m := 0) (fun g' w' ⟨q, kp, Γ'⟩ => ?_) (draw_step (main := main) F Γ)).any
        refine (runLvlsM_ok Gd F X C hops hb.2 hnt hm (fun e he => by cases List.mem_singleton.1 he; exact ⟨S.cons, S.topo⟩) s m t h (List.mem_singleton.2 rfl) (Near.begin S) (schedule_sched ops q) (U0 := U) ⟨⟨I.cur.tmps, I.cur.defers, trivial⟩, I.callers, I.ids⟩ Γ').weaken fun g2 w2 x => ARNext.before (Agree.refl _ _) kp x
    · exact drawnOld_ok Gd F X C he
end

/-! ### One that is not quiet, the last of all -/
section
variable {K : Ctx} {main : Bool} {nt : Nat} {ops : Array Oper}
theorem belowM_sub {r : List Nat} (d : Down ops r) : ∀ {l : List Info}, (∀ x ∈ l, x ∈ infosOf ops) → ∀ {m : Nat}, (∀ i, inM m i = true → i ∈ r) → ∀ i, inM (belowM l m) i = true → i ∈ r
  | [], _, m, hm, i, hi => hm i hi
  | x :: l, hl, m, hm, i, hi => by
    have ih := belowM_sub d (l := l) (fun y hy => hl y (List.mem_cons_of_mem _ hy)) hm
    simp only [belowM] at hi
    split at hi
    · rename_i hx
      have h1 : inM (belowM l m) i = true ∨ inM x.2.2.1 i = true := by
        rw [inM_testBit] at hi ⊢
        rw [inM_testBit]
        have e : Nat.lor (belowM l m) x.2.2.1 = belowM l m ||| x.2.2.1 := rfl
        rw [e, Nat.testBit_or, Bool.or_eq_true] at hi
        exact hi
      rcases h1 with h1 | h1
      · exact ih i h1
      · obtain ⟨j, o, ho, rfl⟩ := mem_infos.1 (hl x (List.mem_cons_self ..))
        obtain ⟨e, he, hb, rfl⟩ := inM_pred.1 h1
        exact d j (ih j hx) o ho e he hb
    · exact ih i hi

theorem pend2 (Gd : K.Good) (F : K.Facts) {ext : Ext} (X : ExtOk K ext) {call : FuncId → List AV → AH → M (AE × AH)} (C : CallOk K main call) (hok : regionOk ops (infosOf ops) = true) {s : List Nat} {m : Nat} {t : TT} {h : AH} (hc : Cons s m)
    (hq : holdsQ K.P K.O ext nt ops m t (bare h) (infosOf ops) = true) {U : Nat → Prop} {cs : List Frame} {fn : FuncId} {k : List Item} {defers : List AD} {kind : CallKind} {callers : List AFrame} :
    ∀ {l r : List Nat} {tr : TT} {ρ : Env} {g : Goroutine} {w : World}, Near ops nt s r t tr → Sched ops r l → Down ops r → CIds K U ⟨⟨fn, nt, tr, .inRegion ops l :: k, defers, .run, kind⟩, callers, bare h⟩ →
      Gam K ρ ⟨⟨fn, nt, tr, .inRegion ops l :: k, defers, .run, kind⟩, callers, h⟩ cs g w → Walk K.P main (DK K) (fun g' w' => ∃ r' tr' l' ρ', Down ops r' ∧ Near ops nt s r' t tr' ∧ Sched ops r' l' ∧ Agree U ρ ρ' ∧ Keeps K.own w w' ∧ CIds K U ⟨⟨fn, nt, tr', .inRegion ops l' :: k, defers, .run, kind⟩, callers, bare h⟩ ∧ Gam K ρ' ⟨⟨fn, nt, tr', .inRegion ops l' :: k, defers, .run, kind⟩, callers, h⟩ cs g' w' ∧
    (l' = [] ∨ ∃ i l'', l' = i :: l'' ∧ i ∉ s)) 0 g w
  | [], r, tr, ρ, g, w, N, sc, dn, I, Γ => Walk.stop ⟨r, tr, [], ρ, dn, N, sc, Agree.refl _ _, Keeps.refl _ _, I, Γ, .inl rfl⟩
  | i :: l, r, tr, ρ, g, w, N, sc, dn, I, Γ => by
    by_cases hi : i ∈ s
    · obtain ⟨hir, hsc⟩ := sc
      obtain ⟨_, o, ho, _⟩ := ready_iff.1 hir
      obtain ⟨o', ho', hqo⟩ := N.quiet i hi (readyIn_mem hir).2
      rw [ho] at ho'; cases ho'
      obtain ⟨v, hv, hd⟩ := holdsQ_ok hq _ (mem_infos.2 ⟨i, o, ho, rfl⟩) hqo ((hc i).2 hi)
      have al := N.alike hok ho hir
      have hop : opFull K.P K.O ext call nt ops i tr (bare h) = .ok (.on (putA nt tr o.dst v) (bare h)) := opFull_quiet ho hqo (by
        rcases hv with ⟨a, b⟩ | ⟨a, h', b⟩
        · exact .inl ⟨by rw [al.wanted]; exact a, b⟩
        · exact .inr ⟨by rw [al.wanted]; exact a, h', by rw [op?_congr al.eval]; exact b⟩)
      obtain ⟨M, hM⟩ := opFull_ok Gd F X C hop
      refine (Walk.trans (m := 0) (fun g' w' nx => ?_) (hM I (Γ.hp rfl))).any
      obtain ⟨ρ', a1, a2, a3, a4, a5⟩ := nx
      have I' := a4.congr (U' := U) fun n => (plus_same U _ n).symm
      refine (pend2 Gd F X C hok hc hq (N.drawn (gam_nt Γ) ho hi hir hd) hsc (dn.cons hir) I' (a5.hp rfl)).weaken fun g2 w2 p => ?_
      obtain ⟨r', tr', l', ρ2, b0, b1, b2, b3, b4, b5⟩ := p
      exact ⟨r', tr', l', ρ2, b0, b1, b2, a1.trans b3 (fun _ x => x), a2.trans b4, b5⟩
    · exact Walk.stop ⟨r, tr, i :: l, ρ, dn, N, sc, Agree.refl _ _, Keeps.refl _ _, I, Γ, .inr ⟨i, l, rfl, hi⟩⟩

theorem tailOp_ok (Gd : K.Good) (F : K.Facts) {ext : Ext} (X : ExtOk K ext) {call : FuncId → List AV → AH → M (AE × AH)} (C : CallOk K main call) {tmps t : TT} {h : AH} {j : Nat} {id : Nat} (he : tailOp K.P K.O ext nt ops (infosOf ops) tmps h = some (j, t)) {fn : FuncId} {defers : List AD} {kind : CallKind} {callers : List AFrame} {k : List Item} :
    Leads K main ⟨⟨fn, nt, tmps, .code (.region id ops true) :: k, defers, .run, kind⟩, callers, h⟩ ⟨⟨fn, nt, t, .inRegion ops [j] :: k, defers, .run, kind⟩, callers, h⟩ 0 := by
  intro U ρ cs g w I Γ
  unfold tailOp at he
  split at he
  · rename_i x hx
    split at he
    · cases he
    · rename_i hb
      simp only [Bool.and_eq_true] at hb
      obtain ⟨_, hb1, hb2⟩ := hb
      split at he
      · cases he
      · rename_i s m t' hso
        split at he
        · rename_i hz
          simp only [Bool.and_eq_true] at hz
          obtain ⟨⟨z1, z2⟩, z3⟩ := hz
          cases he
          have hnt := gam_nt Γ
          have S := soakM_ok hnt (fun _ x => x) cons_nil (show Topo ops [] from trivial) hso
          have hxm : x ∈ infosOf ops := (List.mem_filter.1 (show x ∈ (infosOf ops).filter fun x => !x.2.2.2 by rw [hx]; exact List.mem_singleton.2 rfl)).1
          obtain ⟨j, oj, hoj, rfl⟩ := mem_infos.1 hxm
          dsimp only at z1 z2 ⊢
          have hjr : j ∈ readyIn ops s := (can_iff S.cons hoj).1 z1
          have hjs : j ∉ s := (readyIn_mem hjr).2
          rw [List.all_eq_true] at z2
          have cover : ∀ i, i < ops.size → i ≠ j → i ∈ s ∧ inM (belowM (infosOf ops) (predMask oj.after.toList)) i = true := by
            intro i hi hne
            have := z2 _ (mem_infos.2 ⟨i, ops[i], Array.getElem?_eq_getElem hi, rfl⟩)
            simp only [Bool.or_eq_true, Bool.and_eq_true] at this
            rcases this with h1 | ⟨h1, h2⟩
            · exact absurd (Nat.eq_of_beq_eq_true h1) hne
            · exact ⟨(S.cons i).1 h1, h2⟩
          refine (Walk.trans (m := 0) (fun g' w' ⟨q, kp, Γ'⟩ => ?_) (draw_step (main := main) F Γ)).any
          have I0 : CIds K U ⟨⟨fn, nt, tmps, .inRegion ops (Region.schedule true ops q) :: k, defers, .run, kind⟩, callers, bare h⟩ :=
            ⟨⟨I.cur.tmps, I.cur.defers, trivial⟩, I.callers, ⟨I.ids.hp, I.ids.keys, I.ids.nodup, fun n h1 h2 => (by simp [bare] at h2), I.ids.orc⟩⟩
          refine (pend2 Gd F X C hb2 S.cons z3 (Near.begin S) (schedule_sched ops q) (fun i hi => by cases hi) I0 Γ').weaken fun g2 w2 p => ?_
          obtain ⟨r', tr', l', ρ2, dn, N, sc, A2, kp2, I2, Γ2, hl⟩ := p
          rcases hl with rfl | ⟨i, l2, rfl, hi⟩
          · have := (N.over S.topo sc).2.1
            rw [this] at hjr; cases hjr
          · have hir := sc.1
            have hij : i = j := Classical.byContradiction fun hne => hi (cover i (readyIn_mem hir).1 hne).1
            subst hij
            have hpr : ∀ a, inM (predMask oj.after.toList) a = true → a ∈ r' := by
              intro a ha
              obtain ⟨e, he, hbb, rfl⟩ := inM_pred.1 ha
              obtain ⟨_, o', ho', hp⟩ := ready_iff.1 hir
              rw [hoj] at ho'; cases ho'
              exact hp e he hbb
            have hall : ∀ a, a < ops.size → a ≠ i → a ∈ r' := fun a ha hne => belowM_sub dn (fun _ x => x) hpr a (cover a ha hne).2
            have hl2 : l2 = [] := by
              cases l2 with
              | nil => rfl
              | cons b l3 =>
                have hb := readyIn_mem sc.2.1
                refine absurd (show b ∈ i :: r' from ?_) hb.2
                by_cases e : b = i
                · subst e; exact List.mem_cons_self ..
                · exact List.mem_cons_of_mem _ (hall b hb.1 e)
            subst hl2
            have same : ∀ n, tr'.get n = t.get n := fun n => by
              rcases Nat.lt_or_ge n nt with hlt | hge
              · refine N.same n hlt fun ⟨a, o, h1, h2, h3, h4⟩ => h2 (hall a (Array.getElem?_eq_some_iff.1 h3).1 fun e => hjs (e ▸ h1))
              · exact N.out n hge
            have I3 := cids_tt same I2
            exact ⟨ρ2, A2, kp.trans kp2, Grows.refl I.ids, CIds.congr (U := U) ⟨I3.cur, I3.callers, I.ids⟩ (plus_same U _), gam_tt same Γ2⟩
        · cases he
  · cases he
end

section
variable {K : Ctx} {main : Bool} {U : Nat → Prop} {ρ : Env} {cs : List Frame}
variable {fn : FuncId} {nt : Nat} {tmps : TT} {todo todo' : List Item} {defers : List AD} {kind : CallKind} {callers : List AFrame} {h : AH}
variable {k : List Item}

theorem exec_ok (Gd : K.Good) (F : K.Facts) {ext : Ext} (X : ExtOk K ext) {call : FuncId → List AV → AH → M (AE × AH)} (C : CallOk K main call) {c' : ACfg} (he : exec? K.P K.O ext call fn nt tmps todo defers kind callers h = .ok c') :
    ∃ N, Leads K main ⟨⟨fn, nt, tmps, todo, defers, .run, kind⟩, callers, h⟩ c' N := by
  unfold exec? at he
  split at he
  · split at he
    · cases he
    · rename_i ht
      cases he; exact ⟨1, leads_ret ht fun _ _ _ _ hb => stR_end hb⟩
  · rename_i ops is k
    split at he
    · cases he; exact ⟨1, leads_to fun _ _ _ _ _ _ _ _ => stR_region_end⟩
    · rename_i i rest
      split at he
      · cases he
      · rename_i o ho
        split at he
        · cases he
        · rename_i hw
          cases he
          exact ⟨1, leads_unwanted ho hw⟩
        · rename_i hw
          split at he
          · cases he
          · rename_i n h' hop
            split at he
            · cases he
            rename_i htag
            split at he
            · exact ⟨1, fun U ρ cs g w I Γ => (op_step Gd F X ho hw hop htag I Γ).weaken fun g' w' post => upon_next he ho I post⟩
            · split at he
              · rename_i t h'' hf
                cases he
                obtain ⟨N, hN⟩ := opFull_ok Gd F X C hf
                exact ⟨N, fun U ρ cs g w I Γ => hN I Γ⟩
              · rename_i t ch h'' hf
                cases he
                obtain ⟨N, hN⟩ := opFull_ok Gd F X C hf
                exact ⟨N, fun U ρ cs g w I Γ => (hN I Γ).weaken fun g' w' x => x _⟩
              · cases he
  · cases he; exact ⟨1, leads_to fun _ _ _ _ _ _ _ _ => stR_inBlock⟩
  · cases he; exact ⟨1, leads_to fun _ _ _ _ _ _ _ _ => stR_inScope⟩
  · cases he; exact ⟨1, leads_to fun _ _ _ _ _ _ _ _ => stR_inLoop⟩
  · rename_i c k
    split at he
    · split at he
      · cases he
      · rename_i ht
        cases he; exact ⟨1, leads_ret ht fun _ _ _ _ hb => stR_ret hb⟩
    · cases he; exact ⟨1, leads_to fun _ _ _ _ _ _ _ _ => stR_skip⟩
    · cases he; exact ⟨1, leads_to fun _ _ _ _ _ _ _ _ => stR_label⟩
    · cases he; exact ⟨1, leads_to fun _ _ _ _ _ _ _ _ => stR_seq⟩
    · rename_i x thn els
      split at he
      · rename_i b hx
        split at he
        · rename_i hb
          cases he
          refine ⟨1, leads_to fun ρ tm w cs R T b ds => ?_⟩
          have : Act.eval ⟨tm, ds⟩ x = .bool true := by rw [evalA_ev T, hx]; simp only [AV.ev, bool_lit R hb]
          exact stR_cond this
        · rename_i hb
          cases he
          refine ⟨1, leads_to fun ρ tm w cs R T b ds => ?_⟩
          have : Act.eval ⟨tm, ds⟩ x = .bool false := by rw [evalA_ev T, hx]; simp only [AV.ev, bool_lit R hb]
          exact stR_cond this
        · cases he
      · cases he
    · cases he; exact ⟨1, leads_to fun _ _ _ _ _ _ _ _ => stR_block⟩
    · cases he; exact ⟨1, leads_to fun _ _ _ _ _ _ _ _ => stR_loop⟩
    · cases he; exact ⟨1, leads_to fun _ _ _ _ _ _ _ _ => stR_scope⟩
    · split at he
      · rename_i hx
        cases he
        exact ⟨1, leads_to fun _ _ _ _ _ _ _ _ => stR_exit hx⟩
      · cases he
    · split at he
      · rename_i hx
        cases he
        exact ⟨1, leads_to fun _ _ _ _ _ _ _ _ => stR_goto hx⟩
      · cases he
    · rename_i id ops draw
      split at he
      · cases he; exact ⟨1, leads_to fun _ _ _ _ _ _ _ _ => stR_region⟩
      · split at he
        · rename_i j t hd
          cases he
          exact ⟨0, tailOp_ok Gd F X C hd⟩
        · split at he
          · rename_i t h' hd
            cases he
            obtain ⟨N, hN⟩ := drawn_ok Gd F X C (id := id) hd
            exact ⟨N, fun U ρ cs g w I Γ => hN I Γ⟩
          · rename_i t ch h' hd
            cases he
            obtain ⟨N, hN⟩ := drawn_ok Gd F X C (id := id) hd
            exact ⟨N, fun U ρ cs g w I Γ => (hN I Γ).weaken fun g' w' x => x k⟩
          · cases he
    · cases he
  · cases he

/-! ### The end of a frame -/
theorem resultsOf_ok (Gd : K.Good) {w : World} {tm : Array Value} (R : Rel K ρ h w) (T : TmpR ρ nt tmps tm) {E : Value → World → Prop} : ∀ {l : List ResultVar} {vs : List AV}, resultsOf K.P K.O h tmps l = .ok vs →
    ∀ {Q : List Value → World → Prop}, Q (AV.evs ρ vs) w → wq K.P K.Ev E (l.mapM fun | .tmp t => (pure (tm.getD t undef) : Sem Value) | .cell a t => do loadVar t (← asAddr (tm.getD a undef))) Q w
  | [], vs, he, Q, hq => by
    simp only [resultsOf] at he
    cases he
    simpa only [List.mapM_nil, wq_pure, AV.evs] using hq
  | r :: l, vs, he, Q, hq => by
    simp only [resultsOf] at he
    split at he
    · rename_i v hv
      split at he
      · rename_i vs' hvs
        cases he
        simp only [List.mapM_cons, wq_bind]
        have tail : wq K.P K.Ev E (l.mapM fun | .tmp t => (pure (tm.getD t undef) : Sem Value) | .cell a t => do loadVar t (← asAddr (tm.getD a undef))) (fun xs w => wq K.P K.Ev E (pure (v.ev ρ :: xs)) Q w) w :=
          resultsOf_ok Gd R T hvs (by rw [wq_pure]; exact hq)
        cases r with
        | tmp t =>
          simp only [resultOf] at hv
          cases hv
          simp only [wq_pure]
          rw [T.getD t]
          exact tail
        | cell a t =>
          simp only [resultOf] at hv
          split at hv
          · rename_i x hx
            simp only [wq_bind]
            rw [T.getD a, hx]
            simp only [AV.ev, Option.map_some, asAddr, wq_pure]
            exact wq_loadVar R Gd hv tail
          · cases hv
      · cases he
    · cases he

theorem resultsOf_in (I : Ids K U h) (ht : tmps.In U) : ∀ {l : List ResultVar} {vs : List AV}, resultsOf K.P K.O h tmps l = .ok vs → AV.Ins U vs
  | [], vs, he => by simp only [resultsOf] at he; cases he; trivial
  | r :: l, vs, he => by
    simp only [resultsOf] at he
    split at he
    · rename_i v hv
      split at he
      · rename_i vs' hvs
        cases he
        refine ⟨?_, resultsOf_in I ht hvs⟩
        cases r with
        | tmp t => simp only [resultOf] at hv; cases hv; exact ht t
        | cell a t =>
          simp only [resultOf] at hv
          split at hv
          · exact loadVar?_in I hv
          · cases hv
      · cases he
    · cases he

theorem results?_ok (Gd : K.Good) {v : AV} (he : results? K.P K.O h fn tmps = .ok v) : ∃ f, K.P.funcs[fn]? = some f ∧ (∀ {U}, Ids K U h → tmps.In U → v.In U) ∧
    ∀ {ρ : Env} {nt : Nat} {w : World} {tm : Array Value} {E : Value → World → Prop}, Rel K ρ h w → TmpR ρ nt tmps tm → ∀ {Q : Value → World → Prop}, Q (v.ev ρ) w → wq K.P K.Ev E (results f tm) Q w := by
  unfold results? at he
  split at he
  · rename_i f hf
    have run : ∀ {ρ : Env} {nt : Nat} {w : World} {tm : Array Value} {E : Value → World → Prop} {vs : List AV}, resultsOf K.P K.O h tmps f.results.toList = .ok vs → Rel K ρ h w → TmpR ρ nt tmps tm → ∀ {Q : Value → World → Prop},
        Q (if hs : (AV.evs ρ vs).toArray.size = 1 then (AV.evs ρ vs).toArray[0] else .tuple (AV.evs ρ vs).toArray) w → wq K.P K.Ev E (results f tm) Q w := by
      intro ρ nt w tm E vs hvs R T Q hq
      unfold results
      rw [Array.mapM_eq_mapM_toList]
      simp only [wq_bind, wq_map, wq_pure]
      exact resultsOf_ok Gd R T hvs hq
    split at he
    · rename_i v' hv
      cases he
      refine ⟨f, hf, fun I ht => (resultsOf_in I ht hv).1, fun {ρ nt w tm E} R T {Q} hq => run hv R T ?_⟩
      simpa [AV.evs] using hq
    · rename_i vs hne hv
      cases he
      refine ⟨f, hf, fun I ht => resultsOf_in I ht hv, fun {ρ nt w tm E} R T {Q} hq => run hv R T ?_⟩
      have : ¬ (AV.evs ρ vs).toArray.size = 1 := by
        simp only [List.size_toArray, evs_length]
        intro h1
        obtain ⟨x, rfl⟩ := List.length_eq_one_iff.1 h1
        exact hne x rfl
      rw [dif_neg this]
      exact hq
    · cases he
  · cases he
end
end Go.Proofs.YtmnahfonnljobaaGreatDoor.SX
/-
  Deferred calls, returns, panics; runs.
-/
set_option linter.unusedSectionVars false
set_option linter.unusedVariables false
set_option linter.unusedSimpArgs false
namespace Go.Proofs.YtmnahfonnljobaaGreatDoor.SX
open Go.Conc

section
variable {P : Program} {main : Bool} {fr : Frame} {cs : List Frame} {w w' : World} {D : Deferred} {Ds : List Deferred}

theorem stepG_deferred (hm : fr.mode ≠ .run) (hd : fr.defers = D :: Ds) (ht : (∃ f c, D.target = .fn f c) ∨ ∃ b a t c, D.target = .builtin b a t c) :
    stepG P main (G fr cs) w = callDeferred P { fr with defers := Ds } cs none D w := by
  obtain ⟨fn, tmps, todo, defers, mode, kind, ro⟩ := fr
  obtain ⟨target, args⟩ := D
  dsimp only at hm hd ht
  subst hd
  have h1 : stepG P main (G ⟨fn, tmps, todo, ⟨target, args⟩ :: Ds, mode, kind, ro⟩ cs) w = unwind P main ⟨fn, tmps, todo, ⟨target, args⟩ :: Ds, mode, kind, ro⟩ cs none w := by
    cases mode with
    | run => exact absurd rfl hm
    | returning => rfl
    | panicking c => rfl
  rw [h1]
  rcases ht with ⟨f, c, rfl⟩ | ⟨b, a, t, c, rfl⟩ <;> rfl

theorem callDeferred_enter {f : FuncId} {args : Array Value} (hn : (∃ f c, D.target = .fn f c) ∨ ∃ b a t c, D.target = .builtin b a t c) (hr : (invoke D.target D.args).run P w = .ok (.enter f args) w') :
    callDeferred P fr cs none D w = .go (G (Frame.enter P f args .deferred) (fr :: cs)) w' (seen P fr.fn ((invoke D.target D.args).events P w #[])) := by
  rcases hn with ⟨f, c, hn⟩ | ⟨b, a, t, c, hn⟩ <;> (rw [hn] at hr; simp [callDeferred, hn, hr, GStep.after, G])

theorem callDeferred_value {v : Value} (hn : (∃ f c, D.target = .fn f c) ∨ ∃ b a t c, D.target = .builtin b a t c) (hr : (invoke D.target D.args).run P w = .ok (.value v) w') :
    callDeferred P fr cs none D w = .go (G fr cs) w' (seen P fr.fn ((invoke D.target D.args).events P w #[])) := by
  rcases hn with ⟨f, c, hn⟩ | ⟨b, a, t, c, hn⟩ <;> (rw [hn] at hr; simp [callDeferred, hn, hr, GStep.after, G])
end

section
variable {K : Ctx} {main : Bool} {U : Nat → Prop} {ρ : Env} {cs : List Frame}
variable {fn : FuncId} {nt : Nat} {tmps : TT} {todo : List Item} {mode : AMode} {kind : CallKind} {callers : List AFrame} {h : AH}

theorem AD.target_ev (ρ : Env) (d : AD) : (∃ f c, (d.ev ρ).target = .fn f c) ∨ ∃ b a t c, (d.ev ρ).target = .builtin b a t c := by
  obtain ⟨t, a⟩ := d
  cases t with
  | fn f c => exact .inl ⟨_, _, rfl⟩
  | builtin b a t c => exact .inr ⟨_, _, _, _, rfl⟩

theorem mode_ev_ne (ρ : Env) (hm : mode ≠ .run) : mode.ev ρ ≠ .run := by
  cases mode with
  | run => exact absurd rfl hm
  | returning => exact fun x => by cases x
  | panicking c => exact fun x => by cases x

theorem defer_ok (Gd : K.Good) (F : K.Facts) {ext : Ext} (X : ExtOk K ext) {d : AD} {ds : List AD} {c' : ACfg} (hm : mode ≠ .run) (he : defer? K.P K.O ext fn nt tmps todo d ds mode kind callers h = .ok c') :
    Leads K main ⟨⟨fn, nt, tmps, todo, d :: ds, mode, kind⟩, callers, h⟩ c' 1 := fun U ρ cs g w I Γ => Walk.one Γ.running fun dr => by
  obtain ⟨R, fr, frs, ⟨tm, td, is, rfl⟩, hc, rfl⟩ := Γ.drawn dr
  have hdin : d.In U := I.cur.defers d (List.mem_cons_self ..)
  have step := stepG_deferred (P := K.P) (main := main) (fr := frameOf ρ ⟨fn, nt, tmps, todo, d :: ds, mode, kind⟩ tm td) (cs := frs ++ cs) (w := drawnAt w dr) (D := d.ev ρ) (Ds := dB ρ kind (ds.map (AD.ev ρ))) (mode_ev_ne ρ hm) (by show dB ρ kind (d.ev ρ :: ds.map (AD.ev ρ)) = _; rw [dB_cons]) (AD.target_ev ρ d)
  rw [step]
  have hfr : ({ frameOf ρ ⟨fn, nt, tmps, todo, d :: ds, mode, kind⟩ tm td with defers := dB ρ kind (ds.map (AD.ev ρ)) } : Frame) = frameOf ρ ⟨fn, nt, tmps, todo, ds, mode, kind⟩ tm td := rfl
  rw [hfr]
  have hds : ∀ x ∈ ds, x.In U := fun x hx => I.cur.defers x (List.mem_cons_of_mem _ hx)
  have hin : (⟨fn, nt, tmps, todo, ds, mode, kind⟩ : AFrame).In U := ⟨I.cur.tmps, hds, I.cur.mode⟩
  have base : ∀ {ρ' : Env}, Agree U ρ ρ' → FrRel K.P ρ' ⟨fn, nt, tmps, todo, ds, mode, kind⟩ (frameOf ρ ⟨fn, nt, tmps, todo, ds, mode, kind⟩ tm td) := fun A =>
    FrRel.agree A ⟨tm, td, ⟨is.tmps, is.kind, (fun x => absurd x hm), is.fn⟩, rfl⟩ hin
  unfold defer? at he
  split at he
  · rename_i f args h' hi
    split at he
    · rename_i fr' hen
      cases he
      have N := invoke?_ok Gd F X R I.ids hdin hi
      obtain ⟨run, hes⟩ := wq_run (wq_keep Gd.noWr _ (N.run (E := fun _ _ => False) (Q := fun nx w' => After K U ρ (drawnAt w dr) h' (fun ρ' => AN.is ρ' (.enter f args) nx) w') (fun nx w' x => x) (fun v hn _ => by cases hn)))
      generalize hr : (invoke (d.target.ev ρ) (AV.evs ρ d.args).toArray).run K.P (drawnAt w dr) = r at run
      cases r with
      | halt x w' => cases x <;> exact run.elim
      | ok nx w' =>
        obtain ⟨⟨ρ', A, R', kp, is'⟩, hst⟩ := run
        have is2 : nx = .enter f (AV.evs ρ' args).toArray := is'
        subst is2
        rw [callDeferred_enter (AD.target_ev ρ d) hr]
        obtain ⟨e1, e2, e3, e4, e5⟩ := enterA_ok hen (.inr rfl) N.mem (ρ := ρ')
        refine ⟨⟨kp, fun e he => hes e (mem_seen he), hst⟩, ρ', A, (keeps_drawn _ _ _).trans kp, N.grows, ⟨e2, ?_, N.grows.ids⟩, R', _, frameOf ρ ⟨fn, nt, tmps, todo, ds, mode, kind⟩ tm td :: frs, e1, ⟨base A, callers_agree A hc I.callers⟩, rfl⟩
        intro fr hf
        rcases List.mem_cons.1 hf with rfl | hf
        · exact hin.mono plus_sub
        · exact (I.callers fr hf).mono plus_sub
    · cases he
  · rename_i v h' hi
    cases he
    have N := invoke?_ok Gd F X R I.ids hdin hi
    obtain ⟨run, hes⟩ := wq_run (wq_keep Gd.noWr _ (N.run (E := fun _ _ => False) (Q := fun nx w' => After K U ρ (drawnAt w dr) h' (fun ρ' => AN.is ρ' (.value v) nx) w') (fun nx w' x => x) (fun v hn _ => by cases hn)))
    generalize hr : (invoke (d.target.ev ρ) (AV.evs ρ d.args).toArray).run K.P (drawnAt w dr) = r at run
    cases r with
    | halt x w' => cases x <;> exact run.elim
    | ok nx w' =>
      obtain ⟨⟨ρ', A, R', kp, is'⟩, hst⟩ := run
      have is2 : nx = .value (v.ev ρ') := is'
      subst is2
      rw [callDeferred_value (AD.target_ev ρ d) hr]
      exact ⟨⟨kp, fun e he => hes e (mem_seen he), hst⟩, ρ', A, (keeps_drawn _ _ _).trans kp, N.grows, ⟨hin.mono plus_sub, fun fr hf => (I.callers fr hf).mono plus_sub, N.grows.ids⟩, R', _, frs, base A, callers_agree A hc I.callers, rfl⟩
  · cases he
  · cases he

theorem stepG_back {P : Program} {fr : Frame} {caller : Frame} {f : Func} {v : Value} {w : World} (hm : fr.mode = .returning) (hd : fr.defers = []) (hk : fr.kind = .deferred) (hf : P.funcs[fr.fn]? = some f) (hr : (results f fr.tmps).run P w = .ok v w) :
    stepG P main (G fr (caller :: cs)) w = .go (G (match caller.mode with
        | .panicking ({ recovered := true, .. } :: older) =>
          match older.dropWhile (!·.goexit) with
          | [] => { caller with mode := .returning }
          | rest => { caller with mode := .panicking rest }
        | _ => caller) cs) w (seen P fr.fn ((results f fr.tmps).events P w #[])) := by
  simp [G, stepG, unwind, doReturn, hm, hd, hf, hr, hk, GStep.after]
  rfl

theorem drop_plain (ρ : Env) : ∀ (l : List (AV × Bool)), (l.map fun x => ({ v := x.1.ev ρ, recovered := x.2 } : PanicEntry)).dropWhile (!·.goexit) = []
  | [] => rfl
  | y :: l => by simp only [List.map_cons, List.dropWhile_cons, Bool.not_false, if_true]; exact drop_plain ρ l

theorem back_ok {P : Program} {c : AFrame} {f : Frame} (hc : FrRel P ρ c f) : FrRel P ρ (backTo c) (match f.mode with
        | .panicking ({ recovered := true, .. } :: older) =>
          match older.dropWhile (!·.goexit) with
          | [] => { f with mode := .returning }
          | rest => { f with mode := .panicking rest }
        | _ => f) := by
  obtain ⟨tm, td, is, rfl⟩ := hc
  obtain ⟨fn, nt, tmps, todo, defers, mode, kind⟩ := c
  have hm : (frameOf ρ ⟨fn, nt, tmps, todo, defers, mode, kind⟩ tm td).mode = mode.ev ρ := rfl
  rw [hm]
  cases mode with
  | run => exact ⟨tm, td, is, rfl⟩
  | returning => exact ⟨tm, td, is, rfl⟩
  | panicking chain =>
    cases chain with
    | nil => exact ⟨tm, td, is, rfl⟩
    | cons x older =>
      obtain ⟨v, b⟩ := x
      cases b with
      | false => exact ⟨tm, td, is, rfl⟩
      | true =>
        simp only [AMode.ev, List.map_cons, drop_plain]
        exact ⟨tm, td, ⟨is.tmps, is.kind, (fun x => by cases x), is.fn⟩, rfl⟩

theorem backTo_in {c : AFrame} (hc : c.In U) : (backTo c).In U := by
  obtain ⟨fn, nt, tmps, todo, defers, mode, kind⟩ := c
  cases mode with
  | run => exact hc
  | returning => exact hc
  | panicking chain =>
    cases chain with
    | nil => exact hc
    | cons x older =>
      obtain ⟨v, b⟩ := x
      cases b with
      | false => exact hc
      | true => exact ⟨hc.tmps, hc.defers, trivial⟩

theorem raise_ok {P : Program} {c : AFrame} {f : Frame} {chain : List (AV × Bool)} (hc : FrRel P ρ c f) : FrRel P ρ (raiseA c chain) (f.raise (chain.map fun x => { v := x.1.ev ρ, recovered := x.2 })) := by
  obtain ⟨tm, td, is, rfl⟩ := hc
  obtain ⟨fn, nt, tmps, todo, defers, mode, kind⟩ := c
  cases mode with
  | run => exact ⟨tm, td, ⟨is.tmps, is.kind, (fun x => by cases x), is.fn⟩, rfl⟩
  | returning => exact ⟨tm, td, ⟨is.tmps, is.kind, (fun x => by cases x), is.fn⟩, rfl⟩
  | panicking older => exact ⟨tm, td, ⟨is.tmps, is.kind, (fun x => by cases x), is.fn⟩, by simp [raiseA, Frame.raise, frameOf, AMode.ev]⟩

theorem raiseA_in {c : AFrame} {chain : List (AV × Bool)} (hc : c.In U) (hx : ∀ x ∈ chain, x.1.In U) : (raiseA c chain).In U := by
  obtain ⟨fn, nt, tmps, todo, defers, mode, kind⟩ := c
  cases mode with
  | run => exact ⟨hc.tmps, hc.defers, hx⟩
  | returning => exact ⟨hc.tmps, hc.defers, hx⟩
  | panicking older =>
    refine ⟨hc.tmps, hc.defers, fun x hm => ?_⟩
    rcases List.mem_append.1 hm with hm | hm
    · exact hx x hm
    · exact hc.mode x hm

theorem keeps_same (own : Nat → Prop) {w w' : World} (h : ∃ d, w' = drawnAt w d) : Keeps own w w' := by
  obtain ⟨d, rfl⟩ := h; exact keeps_drawn _ _ _
theorem rel_same {w w' : World} (R : Rel K ρ h w) (e : ∃ d, w' = drawnAt w d) : Rel K ρ h w' := by
  obtain ⟨d, rfl⟩ := e; exact R.drawn _

def StepPost (K : Ctx) (main : Bool) (c : ACfg) : ACfg ⊕ (AE × AH) → Prop
  | .inl c' => ∃ N, Leads K main c c' N
  | .inr e => ∃ N, Ends K main c e N

theorem step_ok (Gd : K.Good) (F : K.Facts) {ext : Ext} (X : ExtOk K ext) {call : FuncId → List AV → AH → M (AE × AH)} (C : CallOk K main call) {c : ACfg} {r : ACfg ⊕ (AE × AH)} (he : step? K.P K.O ext call c = .ok r) : StepPost K main c r := by
  obtain ⟨⟨fn, nt, tmps, todo, defers, mode, kind⟩, callers, h⟩ := c
  unfold step? at he
  dsimp only at he
  split at he
  · split at he
    · rename_i c' hx
      cases he
      exact exec_ok Gd F X C hx
    · cases he
  · split at he
    · cases he
    rename_i ht
    split at he
    · rename_i d ds
      split at he
      · rename_i c' hx
        cases he
        exact ⟨1, defer_ok Gd F X (by simp) hx⟩
      · cases he
    · split at he
      · cases he
      · rename_i v hv
        obtain ⟨f, hf, hin, hrun⟩ := results?_ok Gd hv
        have ends : ∀ {ρ : Env} {cs : List Frame} {w : World} {frs : List Frame} {tm : Array Value} {td : List Item}, kind = .normal → Rel K ρ h w → FrIs K.P ρ ⟨fn, nt, tmps, todo, [], .returning, kind⟩ tm td →
            EndsAs K fn ρ (.returned v) cs (G (frameOf ρ ⟨fn, nt, tmps, todo, [], .returning, kind⟩ tm td) cs) w := fun {ρ cs w frs tm td} hk R is => by
          have hp := plain_of is.kind ht
          have e1 : (frameOf ρ ⟨fn, nt, tmps, todo, [], .returning, kind⟩ tm td).fn = fn := bB_fn ρ fn kind
          exact ⟨_, f, rfl, e1, plain_dB hp ρ [], by rw [e1]; exact hf, rfl, by
            show (bB ρ fn kind).kind = .normal
            rw [plain_bB hp]; exact hk, fun d {Q} hq => hrun (R.drawn d) is.tmps hq⟩
        split at he
        · split at he
          · cases he
            refine ⟨0, fun U ρ cs g w I Γ => ?_⟩
            obtain ⟨R, fr, frs, ⟨tm, td, is, rfl⟩, hc, rfl⟩ := Γ
            cases frs with
            | cons a b => exact absurd hc (by simp [FrRels])
            | nil =>
              exact Walk.stop ⟨ρ, Agree.refl _ _, Keeps.refl _ _, Grows.refl I.ids, AV.In.mono plus_sub _ (hin I.ids I.cur.tmps), R, ends (frs := []) rfl R is⟩
          · cases he
        · rename_i caller rest
          split at he
          · split at he
            · rename_i caller' hfin
              cases he
              obtain ⟨fn', nt', tmps', ops, i, rst, k, defers', kind', rfl, rfl⟩ := finishA_ok hfin
              refine ⟨1, fun U ρ cs g w I Γ => ?_⟩
              obtain ⟨R, fr, frs, ⟨tm, td, is, rfl⟩, hc, rfl⟩ := Γ
              cases frs with
              | nil => exact absurd hc (by simp [FrRels])
              | cons c1 frs =>
                obtain ⟨⟨tm1, td1, is1, rfl⟩, hc⟩ := hc
                have htd : td1 = .inRegion ops (i :: rst) :: k := is1.todo rfl
                subst htd
                have hcin := I.callers _ (List.mem_cons_self ..)
                refine (leave_step (ends (frs := []) rfl R is)).weaken fun g' w' ⟨hw, hg⟩ => ?_
                subst hg
                have := next_put (U := U) (ρ := ρ) (h := h) (cs := cs) (fn := fn') (kind := kind') (ops := ops) (rest := rst) (k := k) (dst := (ops[i]?).bind (·.dst)) (ds := defers') (Agree.refl U ρ) (keeps_same K.own hw) (rel_same R hw) (Grows.refl I.ids)
                  (AV.In.mono plus_sub _ (hin I.ids I.cur.tmps)) hcin.tmps (fun x hx => (hcin.defers x hx).mono plus_sub) (fun fr hf => (I.callers fr (List.mem_cons_of_mem _ hf)).mono plus_sub) is1.tmps is1.kind is1.fn hc
                have hb : frameOf ρ ⟨fn', nt', tmps', .inRegion ops (i :: rst) :: k, defers', .run, kind'⟩ tm1 (.inRegion ops (i :: rst) :: k) = (bB ρ fn' kind').atR (aB ρ kind' tm1 defers') (.inRegion ops (i :: rst) :: k) := rfl
                rw [hb, Frame.finish_atR]
                exact this
            · cases he
          · cases he
            refine ⟨1, fun U ρ cs g w I Γ => Walk.one Γ.running fun d => ?_⟩
            obtain ⟨R, fr, frs, ⟨tm, td, is, rfl⟩, hc, rfl⟩ := Γ.drawn d
            cases frs with
            | nil => exact absurd hc (by simp [FrRels])
            | cons c1 frs =>
              obtain ⟨hc1, hc⟩ := hc
              obtain ⟨run, hes⟩ := wq_run (hrun (E := fun _ _ => False) R is.tmps (Q := fun x w' => x = v.ev ρ ∧ w' = drawnAt w d) ⟨rfl, rfl⟩)
              generalize hr : (results f tm).run K.P (drawnAt w d) = r at run
              cases r with
              | halt x w' => cases x <;> exact run.elim
              | ok x w' =>
                obtain ⟨rfl, rfl⟩ := run
                rw [List.cons_append, stepG_back (fr := frameOf ρ ⟨fn, nt, tmps, todo, [], .returning, .deferred⟩ tm td) rfl rfl rfl hf hr]
                refine ⟨⟨Keeps.refl _ _, fun e he => hes e (mem_seen he), fun _ _ _ _ x => x⟩, ρ, Agree.refl _ _, keeps_drawn _ _ _, Grows.refl I.ids, ?_, R, _, frs, back_ok hc1, hc, rfl⟩
                exact CIds.congr (U := U) ⟨backTo_in (I.callers _ (List.mem_cons_self ..)), fun fr hf => I.callers fr (List.mem_cons_of_mem _ hf), I.ids⟩ (plus_same U _)
          · cases he
  · rename_i chain
    split at he
    · cases he
    rename_i ht
    split at he
    · rename_i d ds
      split at he
      · rename_i c' hx
        cases he
        exact ⟨1, defer_ok Gd F X (by simp) hx⟩
      · cases he
    · have ends : ∀ {ρ : Env} {cs : List Frame} {w : World} {tm : Array Value} {td : List Item}, FrIs K.P ρ ⟨fn, nt, tmps, todo, [], .panicking chain, kind⟩ tm td →
            EndsAs K fn ρ (.panicked chain) cs (G (frameOf ρ ⟨fn, nt, tmps, todo, [], .panicking chain, kind⟩ tm td) cs) w := fun {ρ cs w tm td} is => by
        obtain ⟨f, hf⟩ := is.fn
        have e1 : (frameOf ρ ⟨fn, nt, tmps, todo, [], .panicking chain, kind⟩ tm td).fn = fn := bB_fn ρ fn kind
        exact ⟨_, f, rfl, e1, plain_dB (plain_of is.kind ht) ρ [], by rw [e1]; exact hf, rfl⟩
      split at he
      · cases he
        refine ⟨0, fun U ρ cs g w I Γ => ?_⟩
        obtain ⟨R, fr, frs, ⟨tm, td, is, rfl⟩, hc, rfl⟩ := Γ
        cases frs with
        | cons a b => exact absurd hc (by simp [FrRels])
        | nil => exact Walk.stop ⟨ρ, Agree.refl _ _, Keeps.refl _ _, Grows.refl I.ids, fun x hx => AV.In.mono plus_sub _ (I.cur.mode x hx), R, ends is⟩
      · rename_i caller rest
        cases he
        refine ⟨1, fun U ρ cs g w I Γ => ?_⟩
        obtain ⟨R, fr, frs, ⟨tm, td, is, rfl⟩, hc, rfl⟩ := Γ
        cases frs with
        | nil => exact absurd hc (by simp [FrRels])
        | cons c1 frs =>
          obtain ⟨hc1, hc⟩ := hc
          refine (raise_step (ends is)).weaken fun g' w' ⟨hw, hg⟩ => ?_
          subst hg
          refine ⟨ρ, Agree.refl _ _, keeps_same _ hw, Grows.refl I.ids, ?_, rel_same R hw, _, frs, raise_ok hc1, hc, rfl⟩
          exact CIds.congr (U := U) ⟨raiseA_in (I.callers _ (List.mem_cons_self ..)) I.cur.mode, fun fr hf => I.callers fr (List.mem_cons_of_mem _ hf), I.ids⟩ (plus_same U _)

/-! ### Runs -/
theorem finishA_fn {fr fr' : AFrame} {v : AV} (h : finishA fr v = .ok fr') : fr'.fn = fr.fn := by
  obtain ⟨fn, nt, tmps, ops, i, rest, k, defers, kind, rfl, rfl⟩ := finishA_ok h; rfl

theorem raiseA_fn {fr : AFrame} {vs : List (AV × Bool)} : (raiseA fr vs).fn = fr.fn := by
  obtain ⟨fn, nt, tmps, todo, defers, mode, kind⟩ := fr
  cases mode <;> rfl

theorem upon_bot {P : Program} {fr : AFrame} {callers : List AFrame} {n : AN} {h : AH} {c' : ACfg} (he : upon P fr callers n h = .ok c') : bot c'.cur.fn c'.callers = bot fr.fn callers := by
  obtain ⟨fn, nt, tmps, todo, defers, mode, kind⟩ := fr
  unfold upon at he
  split at he
  · split at he
    · rename_i hx; cases he; show bot _ callers = _; rw [finishA_fn hx]
    · cases he
  · split at he
    · rename_i hx; cases he; show bot _ callers = _; rw [finishA_fn hx]
    · cases he
  · split at he
    · cases he; rfl
    · cases he
  · dsimp only at he
    split at he
    · rename_i hx; cases he; show bot _ callers = _; rw [finishA_fn hx]
    · cases he
  · split at he
    · cases he
    · rename_i v callers' hr
      split at he
      · rename_i hx
        cases he
        show bot _ callers' = _
        rw [finishA_fn hx]
        unfold recoverA at hr
        split at hr
        · cases hr
        · split at hr
          · cases hr
          · split at hr
            · cases hr; rfl
            · cases hr
        · cases hr
      · cases he
    · split at he
      · rename_i hx; cases he; show bot _ callers = _; rw [finishA_fn hx]
      · cases he
  · cases he
    show bot (raiseA _ _).fn callers = _
    rw [raiseA_fn]

theorem exec_bot {P : Program} {O : Orc} {ext : Ext} {call : FuncId → List AV → AH → M (AE × AH)} {defers : List AD} {c' : ACfg} (he : exec? P O ext call fn nt tmps todo defers kind callers h = .ok c') : bot c'.cur.fn c'.callers = bot fn callers := by
  unfold exec? at he
  split at he
  · split at he
    · cases he
    · cases he; rfl
  · split at he
    · cases he; rfl
    · split at he
      · cases he
      · split at he
        · cases he
        · cases he; rfl
        · split at he
          · cases he
          · split at he
            · cases he
            split at he
            · exact upon_bot he
            · split at he
              · cases he; rfl
              · cases he; rfl
              · cases he
  · cases he; rfl
  · cases he; rfl
  · cases he; rfl
  · split at he
    · split at he
      · cases he
      · cases he; rfl
    · cases he; rfl
    · cases he; rfl
    · cases he; rfl
    · split at he
      · split at he
        · cases he; rfl
        · cases he; rfl
        · cases he
      · cases he
    · cases he; rfl
    · cases he; rfl
    · cases he; rfl
    · split at he
      · cases he; rfl
      · cases he
    · split at he
      · cases he; rfl
      · cases he
    · split at he
      · cases he; rfl
      · split at he
        · cases he; rfl
        · split at he
          · cases he; rfl
          · cases he; rfl
          · cases he
    · cases he
  · cases he

theorem defer_bot {P : Program} {O : Orc} {ext : Ext} {d : AD} {ds : List AD} {c' : ACfg} (he : defer? P O ext fn nt tmps todo d ds mode kind callers h = .ok c') : bot c'.cur.fn c'.callers = bot fn callers := by
  unfold defer? at he
  split at he
  · split at he
    · cases he; rfl
    · cases he
  · cases he; rfl
  · cases he
  · cases he

theorem step_bot {P : Program} {O : Orc} {ext : Ext} {call : FuncId → List AV → AH → M (AE × AH)} {c c' : ACfg} (he : step? P O ext call c = .ok (.inl c')) : bot c'.cur.fn c'.callers = bot c.cur.fn c.callers := by
  obtain ⟨⟨fn, nt, tmps, todo, defers, mode, kind⟩, callers, h⟩ := c
  unfold step? at he
  dsimp only at he
  split at he
  · split at he
    · rename_i hx; cases he; exact exec_bot hx
    · cases he
  · split at he
    · cases he
    split at he
    · split at he
      · rename_i hx; cases he; exact defer_bot hx
      · cases he
    · split at he
      · cases he
      · split at he
        · split at he <;> cases he
        · split at he
          · split at he
            · rename_i hx; cases he; simp only [bot, finishA_fn hx]
            · cases he
          · cases he
            show bot (backTo _).fn _ = bot _ _
            unfold backTo
            split <;> rfl
          · cases he
  · split at he
    · cases he
    split at he
    · split at he
      · rename_i hx; cases he; exact defer_bot hx
      · cases he
    · split at he
      · cases he
      · cases he
        simp only [bot, raiseA_fn]

/-- The summaries are sound. -/
def SumOk (K : Ctx) (main : Bool) (sum : Sums) : Prop :=
  ∀ f args h r, sum f args h = some (.ok r) → ∃ fr N, enterA K.P f args .normal = .ok fr ∧ Ends K main ⟨fr, [], h⟩ r N

theorem noSums_ok : SumOk K main noSums := fun _ _ _ _ h => by cases h

theorem callOk_of {sum : Sums} (Z : SumOk K main sum) {k : ACfg → M (AE × AH)} (ih : ∀ {c r}, k c = .ok r → ∃ N, Ends K main c r N) :
    CallOk K main (fun f args h => match sum f args h with
      | some r => r
      | none => match enterA K.P f args .normal with
        | .ok fr => k ⟨fr, [], h⟩
        | .error e => .error e) := by
  intro f args h r hr
  dsimp only at hr
  split at hr
  · rename_i r' hs
    subst hr
    exact Z _ _ _ _ hs
  · split at hr
    · rename_i fr hen
      obtain ⟨N, E⟩ := ih hr
      exact ⟨fr, N, hen, E⟩
    · cases hr

theorem run_ok (Gd : K.Good) (F : K.Facts) {ext : Ext} (X : ExtOk K ext) {sum : Sums} (Z : SumOk K main sum) : ∀ {n : Nat} {c : ACfg} {r : AE × AH}, run? K.P K.O ext sum n c = .ok r → ∃ N, Ends K main c r N := by
  intro n
  induction n with
  | zero => intro c r he; cases he
  | succ n ih =>
    intro c r he
    have he' : (match step? K.P K.O ext (fun f args h => match sum f args h with
      | some r => r
      | none => match enterA K.P f args .normal with
        | .ok fr => run? K.P K.O ext sum n ⟨fr, [], h⟩
        | .error e => .error e) c with
      | .ok (.inl c) => run? K.P K.O ext sum n c
      | .ok (.inr r) => .ok r
      | .error e => .error e) = .ok r := he
    have C := callOk_of (K := K) (main := main) Z (k := run? K.P K.O ext sum n) ih
    split at he'
    · rename_i c' hs
      obtain ⟨N, L⟩ := step_ok Gd F X C hs
      obtain ⟨M, E⟩ := ih he'
      exact ⟨N + M, L.ends (step_bot hs) E⟩
    · rename_i r' hs
      cases he'
      exact step_ok Gd F X C hs
    · cases he'

theorem call_ok (Gd : K.Good) (F : K.Facts) {ext : Ext} (X : ExtOk K ext) {sum : Sums} (Z : SumOk K main sum) {n : Nat} {f : FuncId} {args : List AV} {h : AH} {r : AE × AH} (he : call? K.P K.O ext sum n f args h = .ok r) :
    ∃ fr N, enterA K.P f args .normal = .ok fr ∧ Ends K main ⟨fr, [], h⟩ r N := by
  unfold call? at he
  split at he
  · rename_i fr hen
    obtain ⟨N, E⟩ := run_ok Gd F X Z he
    exact ⟨fr, N, hen, E⟩
  · cases he
end
end Go.Proofs.YtmnahfonnljobaaGreatDoor.SX

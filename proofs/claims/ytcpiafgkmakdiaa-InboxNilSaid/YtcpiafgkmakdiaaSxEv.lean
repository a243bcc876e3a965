/-
  What the executor's data mean; laws of its primitives.
-/
import Derived.Test.YtcpiafgkmakdiaaSxExt
import Derived.Conc.Own5
import Derived.Laws.Sem
namespace Go.Proofs.Ytcpiafgkmakdiaa.SX

/-! ### Meaning -/
structure Env where
  i : Nat → Int
  p : Nat → Bool
  v : Nat → Value
  b : Nat → Nat

def IE.ev (ρ : Env) : IE → Int
  | .lit n => n
  | .var i => ρ.i i
  | .op o k a b => iop o k (a.ev ρ) (b.ev ρ)
  | .conv k a => k.wrap (a.ev ρ)
  | .plus a b => a.ev ρ + b.ev ρ
  | .times a b => a.ev ρ * b.ev ρ
  | .tn a => ((a.ev ρ).toNat : Int)

def BE.ev (ρ : Env) : BE → Bool
  | .lit b => b
  | .var i => ρ.p i
  | .cmp o a b => icmp o (a.ev ρ) (b.ev ρ)

def BR.ev (ρ : Env) : BR → Nat
  | .glob g => g
  | .dyn i => ρ.b i

def AA.ev (ρ : Env) (a : AA) : Addr := ⟨a.blk.ev ρ, (a.off.ev ρ).toNat, none⟩

mutual
def AV.ev (ρ : Env) : AV → Value
  | .bool b => .bool (b.ev ρ)
  | .int k e => .int k (e.ev ρ)
  | .str s => .string s
  | .ptr a => .pointer (a.map (AA.ev ρ))
  | .slice a l c => .slice (a.map (AA.ev ρ)) (l.ev ρ).toNat (c.ev ρ).toNat
  | .map r => .map (r.map (BR.ev ρ))
  | .chan r => .chan (r.map (BR.ev ρ))
  | .func f x y => .func f (AV.evs ρ x).toArray (AV.evs ρ y).toArray
  | .nilFunc => .nilFunc
  | .iface t v => .iface t (v.ev ρ)
  | .nilIface => .nilIface
  | .agg x => .agg (AV.evs ρ x).toArray
  | .tuple x => .tuple (AV.evs ρ x).toArray
  | .opq i => ρ.v i
  | .raw v => v
def AV.evs (ρ : Env) : List AV → List Value
  | [] => []
  | a :: x => a.ev ρ :: AV.evs ρ x
end

theorem evs_map (ρ : Env) : ∀ l, AV.evs ρ l = l.map (AV.ev ρ)
  | [] => by simp [AV.evs]
  | a :: l => by simp [AV.evs, evs_map ρ l]

/-! ### Equality tests -/
theorem IE.eqb_eq : ∀ {a b : IE}, a.eqb b = true → a = b := by
  intro a
  induction a with
  | lit n => intro b h; cases b <;> simp_all [IE.eqb]
  | var n => intro b h; cases b <;> simp_all [IE.eqb]
  | op o k x y ihx ihy => intro b h; cases b <;> simp_all [IE.eqb]; exact ⟨ihx h.1.2, ihy h.2⟩
  | conv k x ih => intro b h; cases b <;> simp_all [IE.eqb]; exact ih h.2
  | plus x y ihx ihy => intro b h; cases b <;> simp_all [IE.eqb]; exact ⟨ihx h.1, ihy h.2⟩
  | times x y ihx ihy => intro b h; cases b <;> simp_all [IE.eqb]; exact ⟨ihx h.1, ihy h.2⟩
  | tn x ih => intro b h; cases b <;> simp_all [IE.eqb]; exact ih h

theorem BE.eqb_eq : ∀ {a b : BE}, a.eqb b = true → a = b := by
  intro a b h
  cases a <;> cases b <;> simp_all [BE.eqb]
  exact ⟨IE.eqb_eq h.1.2, IE.eqb_eq h.2⟩

theorem BR.eqb_eq : ∀ {a b : BR}, a.eqb b = true → a = b := by
  intro a b h; cases a <;> cases b <;> simp_all [BR.eqb]

theorem AA.eqb_eq : ∀ {a b : AA}, a.eqb b = true → a = b := by
  intro a b h
  obtain ⟨x, y⟩ := a; obtain ⟨x', y'⟩ := b
  simp [AA.eqb] at h
  simp [BR.eqb_eq h.1, IE.eqb_eq h.2]

theorem optEqb_eq {α : Type} {f : α → α → Bool} (hf : ∀ {a b}, f a b = true → a = b) : ∀ {a b : Option α}, optEqb f a b = true → a = b := by
  intro a b h; cases a <;> cases b <;> simp_all [optEqb]; exact hf h

mutual
theorem AV.eqb_eq : ∀ (a b : AV), a.eqb b = true → a = b
  | .bool x, b, h => by cases b <;> simp_all [AV.eqb]; exact BE.eqb_eq h
  | .int k x, b, h => by cases b <;> simp_all [AV.eqb]; exact IE.eqb_eq h.2
  | .str s, b, h => by
    cases b <;> simp_all [AV.eqb]
    rename_i t; cases s; cases t; simp_all
  | .ptr a, b, h => by cases b <;> simp_all [AV.eqb]; exact optEqb_eq AA.eqb_eq h
  | .slice a l c, b, h => by cases b <;> simp_all [AV.eqb]; exact ⟨optEqb_eq AA.eqb_eq h.1.1, IE.eqb_eq h.1.2, IE.eqb_eq h.2⟩
  | .map a, b, h => by cases b <;> simp_all [AV.eqb]; exact optEqb_eq BR.eqb_eq h
  | .chan a, b, h => by cases b <;> simp_all [AV.eqb]; exact optEqb_eq BR.eqb_eq h
  | .func f x y, b, h => by cases b <;> simp_all [AV.eqb]; exact ⟨AV.eqbs_eq _ _ h.1.2, AV.eqbs_eq _ _ h.2⟩
  | .nilFunc, b, h => by cases b <;> simp_all [AV.eqb]
  | .iface t v, b, h => by cases b <;> simp_all [AV.eqb]; exact AV.eqb_eq _ _ h.2
  | .nilIface, b, h => by cases b <;> simp_all [AV.eqb]
  | .agg x, b, h => by cases b <;> simp_all [AV.eqb]; exact AV.eqbs_eq _ _ h
  | .tuple x, b, h => by cases b <;> simp_all [AV.eqb]; exact AV.eqbs_eq _ _ h
  | .opq i, b, h => by cases b <;> simp_all [AV.eqb]
  | .raw v, b, h => by cases b <;> simp_all [AV.eqb]
theorem AV.eqbs_eq : ∀ (a b : List AV), AV.eqbs a b = true → a = b
  | [], b, h => by cases b <;> simp_all [AV.eqbs]
  | a :: x, b, h => by
    cases b <;> simp_all [AV.eqbs]
    exact ⟨AV.eqb_eq _ _ h.1, AV.eqbs_eq _ _ h.2⟩
end

theorem TT.eqb_eq : ∀ {a b : TT}, a.eqb b = true → a = b := by
  intro a
  induction a with
  | leaf => intro b h; cases b <;> simp_all [TT.eqb]
  | node v l r ihl ihr => intro b h; cases b <;> simp_all [TT.eqb]; exact ⟨AV.eqb_eq _ _ h.1.1, ihl h.1.2, ihr h.2⟩

theorem pairsEqb_eq : ∀ {a b : List (AV × AV)}, pairsEqb a b = true → a = b := by
  intro a
  induction a with
  | nil => intro b h; cases b with
    | nil => rfl
    | cons x l => simp [pairsEqb] at h
  | cons x l ih => intro b h; cases b with
    | nil => simp [pairsEqb] at h
    | cons y m =>
      obtain ⟨x1, x2⟩ := x; obtain ⟨y1, y2⟩ := y
      simp only [pairsEqb, Bool.and_eq_true] at h
      rw [AV.eqb_eq _ _ h.1.1, AV.eqb_eq _ _ h.1.2, ih h.2]

theorem ABlk.eqb_eq : ∀ {a b : ABlk}, a.eqb b = true → a = b := by
  intro a b h
  cases a <;> cases b <;> simp_all [ABlk.eqb]
  · exact AV.eqbs_eq _ _ h.1
  · exact ⟨AV.eqbs_eq _ _ h.1.1, IE.eqb_eq h.2⟩
  · exact AV.eqbs_eq _ _ h.1.1
  · exact pairsEqb_eq h

theorem hpEqb_eq : ∀ {a b : List (Nat × ABlk)}, hpEqb a b = true → a = b := by
  intro a
  induction a with
  | nil => intro b h; cases b <;> simp_all [hpEqb]
  | cons p l ih =>
    intro b h
    cases b with
    | nil => simp [hpEqb] at h
    | cons q m =>
      obtain ⟨i, x⟩ := p; obtain ⟨j, y⟩ := q
      simp [hpEqb, Nat.beq_eq] at h
      obtain ⟨⟨rfl, h2⟩, h3⟩ := h
      rw [ABlk.eqb_eq h2, ih h3]

/-! ### Temporaries -/
@[simp] theorem TT.get_leaf (n : Nat) : TT.leaf.get n = undefA := rfl
@[simp] theorem TT.get_node_zero (v : AV) (l r : TT) : (TT.node v l r).get 0 = v := rfl
theorem TT.get_node_succ (v : AV) (l r : TT) (m : Nat) : (TT.node v l r).get (m + 1) = if m % 2 = 0 then r.get (m / 2) else l.get (m / 2) := by
  show (Bool.rec (motive := fun _ => AV) (l.get (m / 2)) (r.get (m / 2)) (Nat.beq (m % 2) 0)) = _
  by_cases h : m % 2 = 0
  · simp [h]
  · simp only [if_neg h]
    have : Nat.beq (m % 2) 0 = false := by
      cases hb : Nat.beq (m % 2) 0 with
      | false => rfl
      | true => exact absurd (Nat.eq_of_beq_eq_true hb) h
    rw [this]

theorem TT.set_succ_leaf_zero (v : AV) (f : Nat) : TT.set v (f + 1) .leaf 0 = .node v .leaf .leaf := rfl
theorem TT.set_succ_node_zero (v u : AV) (f : Nat) (l r : TT) : TT.set v (f + 1) (.node u l r) 0 = .node v l r := rfl
theorem beq_mod (m : Nat) (h : ¬ m % 2 = 0) : Nat.beq (m % 2) 0 = false := by
  cases hb : Nat.beq (m % 2) 0 with
  | false => rfl
  | true => exact absurd (Nat.eq_of_beq_eq_true hb) h
theorem TT.set_succ_leaf_succ (v : AV) (f m : Nat) : TT.set v (f + 1) .leaf (m + 1) = if m % 2 = 0 then .node undefA .leaf (TT.set v f .leaf (m / 2)) else .node undefA (TT.set v f .leaf (m / 2)) .leaf := by
  show Bool.rec (motive := fun _ => TT) (TT.node undefA (TT.set v f .leaf (m / 2)) .leaf) (TT.node undefA .leaf (TT.set v f .leaf (m / 2))) (Nat.beq (m % 2) 0) = _
  by_cases h : m % 2 = 0
  · simp [h]
  · rw [beq_mod m h, if_neg h]
theorem TT.set_succ_node_succ (v u : AV) (f m : Nat) (l r : TT) : TT.set v (f + 1) (.node u l r) (m + 1) = if m % 2 = 0 then .node u l (TT.set v f r (m / 2)) else .node u (TT.set v f l (m / 2)) r := by
  show Bool.rec (motive := fun _ => TT) (TT.node u (TT.set v f l (m / 2)) r) (TT.node u l (TT.set v f r (m / 2))) (Nat.beq (m % 2) 0) = _
  by_cases h : m % 2 = 0
  · simp [h]
  · rw [beq_mod m h, if_neg h]

theorem TT.get_set (v : AV) : ∀ (f : Nat) (t : TT) (n m : Nat), n + 1 < 2 ^ f → (TT.set v f t n).get m = if m = n then v else t.get m := by
  intro f
  induction f with
  | zero => intro t n m h; simp at h
  | succ f ih =>
    intro t n m h
    have hpow : 2 ^ (f + 1) = 2 * 2 ^ f := by rw [Nat.pow_succ, Nat.mul_comm]
    cases t with
    | leaf =>
      cases n with
      | zero =>
        rw [TT.set_succ_leaf_zero]
        cases m with
        | zero => simp
        | succ m => simp [TT.get_node_succ]
      | succ n =>
        have h' : n / 2 + 1 < 2 ^ f := by omega
        rw [TT.set_succ_leaf_succ]
        cases m with
        | zero => split <;> simp
        | succ m =>
          split <;> rename_i hn <;> rw [TT.get_node_succ] <;> split <;> rename_i hm
          · rw [ih _ _ _ h']; by_cases e : m = n
            · subst e; simp
            · have : ¬ m / 2 = n / 2 := by omega
              simp [this, e]
          · have : ¬ m = n := by omega
            simp [this]
          · have : ¬ m = n := by omega
            simp [this]
          · rw [ih _ _ _ h']; by_cases e : m = n
            · subst e; simp
            · have : ¬ m / 2 = n / 2 := by omega
              simp [this, e]
    | node u l r =>
      cases n with
      | zero =>
        rw [TT.set_succ_node_zero]
        cases m with
        | zero => simp
        | succ m => simp [TT.get_node_succ]
      | succ n =>
        have h' : n / 2 + 1 < 2 ^ f := by omega
        rw [TT.set_succ_node_succ]
        cases m with
        | zero => split <;> simp
        | succ m =>
          split <;> rename_i hn <;> rw [TT.get_node_succ, TT.get_node_succ] <;> split <;> rename_i hm
          · rw [ih _ _ _ h']; by_cases e : m = n
            · subst e; simp
            · have : ¬ m / 2 = n / 2 := by omega
              simp [this, e]
          · have : ¬ m = n := by omega
            simp [this]
          · have : ¬ m = n := by omega
            simp [this]
          · rw [ih _ _ _ h']; by_cases e : m = n
            · subst e; simp
            · have : ¬ m / 2 = n / 2 := by omega
              simp [this, e]

theorem TT.get_fill : ∀ (l : List AV) (n : Nat) (t : TT) (m : Nat), n + l.length ≤ 60000 → (TT.fill l n t).get m = if n ≤ m ∧ m < n + l.length then l.getD (m - n) undefA else t.get m := by
  intro l
  induction l with
  | nil => intro n t m _; simp [TT.fill]; intro h; omega
  | cons v l ih =>
    intro n t m h
    simp only [List.length_cons] at h
    rw [TT.fill, ih (n + 1) _ m (by omega), TT.get_set v 16 t n m (by omega)]
    by_cases h1 : n + 1 ≤ m ∧ m < n + 1 + l.length
    · rw [if_pos h1, if_pos (by simp only [List.length_cons]; omega)]
      have : m - n = (m - (n + 1)) + 1 := by omega
      rw [this]; simp
    · rw [if_neg h1]
      by_cases h2 : m = n
      · subst h2; simp
      · rw [if_neg h2, if_neg (by simp only [List.length_cons]; omega)]

/-! ### The heap's list -/
theorem findB_nil (i : Nat) : findB i [] = none := rfl
theorem findB_cons (i j : Nat) (b : ABlk) (l : List (Nat × ABlk)) : findB i ((j, b) :: l) = if i = j then some b else findB i l := by
  show Bool.rec (motive := fun _ => Option ABlk) (findB i l) (some b) (Nat.beq i j) = _
  by_cases h : i = j
  · subst h; simp
  · have : Nat.beq i j = false := by
      cases hb : Nat.beq i j with
      | false => rfl
      | true => exact absurd (Nat.eq_of_beq_eq_true hb) h
    rw [this, if_neg h]
theorem setB_cons (i j : Nat) (b c : ABlk) (l : List (Nat × ABlk)) : setB i b ((j, c) :: l) = if i = j then (j, b) :: l else (j, c) :: setB i b l := by
  show Bool.rec (motive := fun _ => List (Nat × ABlk)) ((j, c) :: setB i b l) ((j, b) :: l) (Nat.beq i j) = _
  by_cases h : i = j
  · subst h; simp
  · have : Nat.beq i j = false := by
      cases hb : Nat.beq i j with
      | false => rfl
      | true => exact absurd (Nat.eq_of_beq_eq_true hb) h
    rw [this, if_neg h]
theorem dropB_cons (i j : Nat) (c : ABlk) (l : List (Nat × ABlk)) : dropB i ((j, c) :: l) = if i = j then l else (j, c) :: dropB i l := by
  show Bool.rec (motive := fun _ => List (Nat × ABlk)) ((j, c) :: dropB i l) l (Nat.beq i j) = _
  by_cases h : i = j
  · subst h; simp
  · have : Nat.beq i j = false := by
      cases hb : Nat.beq i j with
      | false => rfl
      | true => exact absurd (Nat.eq_of_beq_eq_true hb) h
    rw [this, if_neg h]
theorem insB_cons (i j : Nat) (b c : ABlk) (l : List (Nat × ABlk)) : insB i b ((j, c) :: l) = if j < i then (i, b) :: (j, c) :: l else (j, c) :: insB i b l := by
  show Bool.rec (motive := fun _ => List (Nat × ABlk)) ((j, c) :: insB i b l) ((i, b) :: (j, c) :: l) (Nat.ble (j + 1) i) = _
  by_cases h : j < i
  · have : Nat.ble (j + 1) i = true := Nat.ble_eq_true_of_le h
    rw [this, if_pos h]
  · have : Nat.ble (j + 1) i = false := by
      cases hb : Nat.ble (j + 1) i with
      | false => rfl
      | true => exact absurd (Nat.le_of_ble_eq_true hb) h
    rw [this, if_neg h]

def keys (l : List (Nat × ABlk)) : List Nat := l.map (·.1)

theorem findB_setB (i j : Nat) (b : ABlk) : ∀ l, findB j (setB i b l) = if j = i then (findB i l).map (fun _ => b) else findB j l
  | [] => by simp [setB, findB_nil]
  | (k, c) :: l => by
    rw [setB_cons]
    split
    · rename_i h; subst h
      rw [findB_cons, findB_cons, findB_cons]
      split
      · rename_i h; subst h; simp
      · rename_i h; simp
    · rename_i h
      rw [findB_cons, findB_setB i j b l, findB_cons, findB_cons, if_neg h]
      by_cases e : j = k
      · subst e; rw [if_pos rfl, if_neg (fun e => h e.symm)]; simp
      · simp [e]

theorem findB_none {i : Nat} : ∀ {l : List (Nat × ABlk)}, i ∉ keys l → findB i l = none
  | [], _ => rfl
  | (j, b) :: l, h => by
    simp [keys] at h
    rw [findB_cons, if_neg h.1]
    exact findB_none (by simp [keys]; exact h.2)

theorem findB_key {i : Nat} {b : ABlk} : ∀ {l : List (Nat × ABlk)}, findB i l = some b → i ∈ keys l
  | [], h => by simp [findB_nil] at h
  | (j, c) :: l, h => by
    rw [findB_cons] at h
    split at h
    · rename_i e; subst e; simp [keys]
    · have := findB_key h
      simp [keys] at this ⊢
      exact .inr this

theorem findB_insB (i j : Nat) (b : ABlk) : ∀ l, i ∉ keys l → findB j (insB i b l) = if j = i then some b else findB j l
  | [], _ => by show findB j [(i, b)] = _; rw [findB_cons, findB_nil]
  | (k, c) :: l, h => by
    simp [keys] at h
    rw [insB_cons]
    split
    · rw [findB_cons]
    · rw [findB_cons, findB_insB i j b l (by simp [keys]; exact h.2), findB_cons]
      by_cases e : j = k
      · subst e; rw [if_pos rfl, if_neg (fun e => h.1 e.symm), if_pos rfl]
      · rw [if_neg e, if_neg e]

theorem keys_insB (i : Nat) (b : ABlk) : ∀ l, (keys (insB i b l)).Perm (i :: keys l)
  | [] => by show (keys [(i, b)]).Perm _; simp [keys]
  | (k, c) :: l => by
    rw [insB_cons]
    split
    · simp [keys]
    · have := keys_insB i b l
      simp only [keys, List.map_cons] at this ⊢
      exact (List.Perm.cons k this).trans (List.Perm.swap i k _)

theorem keys_setB (i : Nat) (b : ABlk) : ∀ l, keys (setB i b l) = keys l
  | [] => rfl
  | (k, c) :: l => by
    rw [setB_cons]
    split
    · simp [keys]
    · have := keys_setB i b l
      simp only [keys, List.map_cons] at this ⊢
      rw [this]

theorem findB_dropB (i j : Nat) : ∀ l, (keys l).Nodup → findB j (dropB i l) = if j = i then none else findB j l
  | [], _ => by simp [dropB, findB_nil]
  | (k, c) :: l, h => by
    simp only [keys, List.map_cons, List.nodup_cons] at h
    rw [dropB_cons]
    split
    · rename_i e; subst e
      rw [findB_cons]
      split
      · rename_i e; subst e; exact findB_none h.1
      · rfl
    · rename_i e
      rw [findB_cons, findB_dropB i j l h.2, findB_cons]
      by_cases e' : j = k
      · subst e'; rw [if_pos rfl, if_neg (fun x => e x.symm), if_pos rfl]
      · rw [if_neg e', if_neg e']

theorem keys_dropB_sub (i : Nat) : ∀ l, (keys (dropB i l)).Sublist (keys l)
  | [] => List.Sublist.refl _
  | (k, c) :: l => by
    rw [dropB_cons]
    split
    · simp [keys]
    · have := keys_dropB_sub i l
      simp only [keys, List.map_cons] at this ⊢
      exact this.cons_cons k

theorem look_some {α β : Type} {eq : α → α → Bool} {a : α} {y : β} : ∀ {l : List (α × β)}, look eq a l = some y → ∃ x, (x, y) ∈ l ∧ eq a x = true
  | [], h => by simp [look] at h
  | (x, z) :: l, h => by
    have h' : (Bool.rec (look eq a l) (some z) (eq a x) : Option β) = some y := h
    cases e : eq a x with
    | true => rw [e] at h'; simp at h'; subst h'; exact ⟨x, by simp, e⟩
    | false =>
      rw [e] at h'
      obtain ⟨x', hm, he⟩ := look_some (l := l) h'
      exact ⟨x', List.mem_cons_of_mem _ hm, he⟩

end Go.Proofs.Ytcpiafgkmakdiaa.SX

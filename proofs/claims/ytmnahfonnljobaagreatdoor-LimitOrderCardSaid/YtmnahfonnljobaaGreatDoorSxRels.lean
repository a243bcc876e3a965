/-
  What the executor's data mean; laws of its primitives.
-/
import Derived.Test.YtmnahfonnljobaaGreatDoorSxBase
import Derived.Conc.Own5
import Derived.Laws.Sem
import Derived.Conc.Events
namespace Go.Proofs.YtmnahfonnljobaaGreatDoor.SX

/-! ### Meaning -/
structure Env where
  i : Nat → Int
  p : Nat → Bool
  v : Nat → Value
  b : Nat → Nat
  /-- of a frame that is marked: the loop of which it is a round; what is deferred below -/
  bt : Option Nat × List Deferred := (none, [])

def IE.ev (ρ : Env) : IE → Int
  | .lit n => n
  | .var i => ρ.i i
  | .op o k a b => iop o k (a.ev ρ) (b.ev ρ)
  | .conv k a => k.wrap (a.ev ρ)
  | .plus a b => a.ev ρ + b.ev ρ
  | .times a b => a.ev ρ * b.ev ρ
  | .tn a => ((a.ev ρ).toNat : Int)

def BE.ev (ρ : Env) : BE → Bool
  | .lit b => b
  | .var i => ρ.p i
  | .cmp o a b => icmp o (a.ev ρ) (b.ev ρ)

def BR.ev (ρ : Env) : BR → Nat
  | .glob g => g
  | .dyn i => ρ.b i

def AA.ev (ρ : Env) (a : AA) : Addr := ⟨a.blk.ev ρ, (a.off.ev ρ).toNat, none⟩

mutual
def AV.ev (ρ : Env) : AV → Value
  | .bool b => .bool (b.ev ρ)
  | .int k e => .int k (e.ev ρ)
  | .str s => .string s
  | .ptr a => .pointer (a.map (AA.ev ρ))
  | .slice a l c => .slice (a.map (AA.ev ρ)) (l.ev ρ).toNat (c.ev ρ).toNat
  | .map r => .map (r.map (BR.ev ρ))
  | .chan r => .chan (r.map (BR.ev ρ))
  | .func f x y => .func f (AV.evs ρ x).toArray (AV.evs ρ y).toArray
  | .nilFunc => .nilFunc
  | .iface t v => .iface t (v.ev ρ)
  | .nilIface => .nilIface
  | .agg x => .agg (AV.evs ρ x).toArray
  | .tuple x => .tuple (AV.evs ρ x).toArray
  | .opq i => ρ.v i
  | .raw v => v
def AV.evs (ρ : Env) : List AV → List Value
  | [] => []
  | a :: x => a.ev ρ :: AV.evs ρ x
end

theorem evs_map (ρ : Env) : ∀ l, AV.evs ρ l = l.map (AV.ev ρ)
  | [] => by simp [AV.evs]
  | a :: l => by simp [AV.evs, evs_map ρ l]

/-! ### Equality tests -/
theorem IE.eqb_eq : ∀ {a b : IE}, a.eqb b = true → a = b := by
  intro a
  induction a with
  | lit n => intro b h; cases b <;> simp_all [IE.eqb]
  | var n => intro b h; cases b <;> simp_all [IE.eqb]
  | op o k x y ihx ihy => intro b h; cases b <;> simp_all [IE.eqb]; exact ⟨ihx h.1.2, ihy h.2⟩
  | conv k x ih => intro b h; cases b <;> simp_all [IE.eqb]; exact ih h.2
  | plus x y ihx ihy => intro b h; cases b <;> simp_all [IE.eqb]; exact ⟨ihx h.1, ihy h.2⟩
  | times x y ihx ihy => intro b h; cases b <;> simp_all [IE.eqb]; exact ⟨ihx h.1, ihy h.2⟩
  | tn x ih => intro b h; cases b <;> simp_all [IE.eqb]; exact ih h

theorem BE.eqb_eq : ∀ {a b : BE}, a.eqb b = true → a = b := by
  intro a b h
  cases a <;> cases b <;> simp_all [BE.eqb]
  exact ⟨IE.eqb_eq h.1.2, IE.eqb_eq h.2⟩

theorem BR.eqb_eq : ∀ {a b : BR}, a.eqb b = true → a = b := by
  intro a b h; cases a <;> cases b <;> simp_all [BR.eqb]

theorem AA.eqb_eq : ∀ {a b : AA}, a.eqb b = true → a = b := by
  intro a b h
  obtain ⟨x, y⟩ := a; obtain ⟨x', y'⟩ := b
  simp [AA.eqb] at h
  simp [BR.eqb_eq h.1, IE.eqb_eq h.2]

theorem optEqb_eq {α : Type} {f : α → α → Bool} (hf : ∀ {a b}, f a b = true → a = b) : ∀ {a b : Option α}, optEqb f a b = true → a = b := by
  intro a b h; cases a <;> cases b <;> simp_all [optEqb]; exact hf h

mutual
theorem AV.eqb_eq : ∀ (a b : AV), a.eqb b = true → a = b
  | .bool x, b, h => by cases b <;> simp_all [AV.eqb]; exact BE.eqb_eq h
  | .int k x, b, h => by cases b <;> simp_all [AV.eqb]; exact IE.eqb_eq h.2
  | .str s, b, h => by
    cases b <;> simp_all [AV.eqb]
    rename_i t; cases s; cases t; simp_all
  | .ptr a, b, h => by cases b <;> simp_all [AV.eqb]; exact optEqb_eq AA.eqb_eq h
  | .slice a l c, b, h => by cases b <;> simp_all [AV.eqb]; exact ⟨optEqb_eq AA.eqb_eq h.1.1, IE.eqb_eq h.1.2, IE.eqb_eq h.2⟩
  | .map a, b, h => by cases b <;> simp_all [AV.eqb]; exact optEqb_eq BR.eqb_eq h
  | .chan a, b, h => by cases b <;> simp_all [AV.eqb]; exact optEqb_eq BR.eqb_eq h
  | .func f x y, b, h => by cases b <;> simp_all [AV.eqb]; exact ⟨AV.eqbs_eq _ _ h.1.2, AV.eqbs_eq _ _ h.2⟩
  | .nilFunc, b, h => by cases b <;> simp_all [AV.eqb]
  | .iface t v, b, h => by cases b <;> simp_all [AV.eqb]; exact AV.eqb_eq _ _ h.2
  | .nilIface, b, h => by cases b <;> simp_all [AV.eqb]
  | .agg x, b, h => by cases b <;> simp_all [AV.eqb]; exact AV.eqbs_eq _ _ h
  | .tuple x, b, h => by cases b <;> simp_all [AV.eqb]; exact AV.eqbs_eq _ _ h
  | .opq i, b, h => by cases b <;> simp_all [AV.eqb]
  | .raw v, b, h => by cases b <;> simp_all [AV.eqb]
theorem AV.eqbs_eq : ∀ (a b : List AV), AV.eqbs a b = true → a = b
  | [], b, h => by cases b <;> simp_all [AV.eqbs]
  | a :: x, b, h => by
    cases b <;> simp_all [AV.eqbs]
    exact ⟨AV.eqb_eq _ _ h.1, AV.eqbs_eq _ _ h.2⟩
end

theorem TT.eqb_eq : ∀ {a b : TT}, a.eqb b = true → a = b := by
  intro a
  induction a with
  | leaf => intro b h; cases b <;> simp_all [TT.eqb]
  | node v l r ihl ihr => intro b h; cases b <;> simp_all [TT.eqb]; exact ⟨AV.eqb_eq _ _ h.1.1, ihl h.1.2, ihr h.2⟩

theorem pairsEqb_eq : ∀ {a b : List (AV × AV)}, pairsEqb a b = true → a = b := by
  intro a
  induction a with
  | nil => intro b h; cases b with
    | nil => rfl
    | cons x l => simp [pairsEqb] at h
  | cons x l ih => intro b h; cases b with
    | nil => simp [pairsEqb] at h
    | cons y m =>
      obtain ⟨x1, x2⟩ := x; obtain ⟨y1, y2⟩ := y
      simp only [pairsEqb, Bool.and_eq_true] at h
      rw [AV.eqb_eq _ _ h.1.1, AV.eqb_eq _ _ h.1.2, ih h.2]

theorem factsEqb_eq : ∀ {a b : List (IE × AV)}, factsEqb a b = true → a = b := by
  intro a
  induction a with
  | nil => intro b h; cases b with
    | nil => rfl
    | cons x l => simp [factsEqb] at h
  | cons x l ih => intro b h; cases b with
    | nil => simp [factsEqb] at h
    | cons y m =>
      obtain ⟨x1, x2⟩ := x; obtain ⟨y1, y2⟩ := y
      simp only [factsEqb, Bool.and_eq_true] at h
      rw [IE.eqb_eq h.1.1, AV.eqb_eq _ _ h.1.2, ih h.2]

theorem kfactsEqb_eq : ∀ {a b : List (AA × Option AV)}, kfactsEqb a b = true → a = b := by
  intro a
  induction a with
  | nil => intro b h; cases b with
    | nil => rfl
    | cons x l => simp [kfactsEqb] at h
  | cons x l ih => intro b h; cases b with
    | nil => simp [kfactsEqb] at h
    | cons y m =>
      obtain ⟨x1, x2⟩ := x; obtain ⟨y1, y2⟩ := y
      simp only [kfactsEqb, Bool.and_eq_true] at h
      rw [AA.eqb_eq h.1.1, optEqb_eq (fun h => AV.eqb_eq _ _ h) h.1.2, ih h.2]

theorem ABlk.eqb_eq : ∀ {a b : ABlk}, a.eqb b = true → a = b := by
  intro a b h
  cases a <;> cases b <;> simp_all [ABlk.eqb]
  · exact AV.eqbs_eq _ _ h.1
  · exact ⟨AV.eqbs_eq _ _ h.1.1, IE.eqb_eq h.2⟩
  · exact AV.eqbs_eq _ _ h.1.1
  · exact pairsEqb_eq h
  · obtain ⟨⟨⟨h1, h2⟩, h3⟩, h4⟩ := h
    exact ⟨IE.eqb_eq h2, kfactsEqb_eq h3, pairsEqb_eq h4⟩
  · obtain ⟨⟨⟨⟨⟨⟨h1, h2⟩, h3⟩, h4⟩, h5⟩, h6⟩, h7⟩ := h
    exact ⟨IE.eqb_eq h2, factsEqb_eq h3, factsEqb_eq h4, AV.eqbs_eq _ _ h5, IE.eqb_eq h7⟩

theorem hpEqb_eq : ∀ {a b : List (Nat × ABlk)}, hpEqb a b = true → a = b := by
  intro a
  induction a with
  | nil => intro b h; cases b <;> simp_all [hpEqb]
  | cons p l ih =>
    intro b h
    cases b with
    | nil => simp [hpEqb] at h
    | cons q m =>
      obtain ⟨i, x⟩ := p; obtain ⟨j, y⟩ := q
      simp [hpEqb, Nat.beq_eq] at h
      obtain ⟨⟨rfl, h2⟩, h3⟩ := h
      rw [ABlk.eqb_eq h2, ih h3]

/-! ### Temporaries -/
@[simp] theorem TT.get_leaf (n : Nat) : TT.leaf.get n = undefA := rfl
@[simp] theorem TT.get_node_zero (v : AV) (l r : TT) : (TT.node v l r).get 0 = v := rfl
theorem TT.get_node_succ (v : AV) (l r : TT) (m : Nat) : (TT.node v l r).get (m + 1) = if m % 2 = 0 then r.get (m / 2) else l.get (m / 2) := by
  show (Bool.rec (motive := fun _ => AV) (l.get (m / 2)) (r.get (m / 2)) (Nat.beq (m % 2) 0)) = _
  by_cases h : m % 2 = 0
  · simp [h]
  · simp only [if_neg h]
    have : Nat.beq (m % 2) 0 = false := by
      cases hb : Nat.beq (m % 2) 0 with
      | false => rfl
      | true => exact absurd (Nat.eq_of_beq_eq_true hb) h
    rw [this]

theorem TT.set_succ_leaf_zero (v : AV) (f : Nat) : TT.set v (f + 1) .leaf 0 = .node v .leaf .leaf := rfl
theorem TT.set_succ_node_zero (v u : AV) (f : Nat) (l r : TT) : TT.set v (f + 1) (.node u l r) 0 = .node v l r := rfl
theorem beq_mod (m : Nat) (h : ¬ m % 2 = 0) : Nat.beq (m % 2) 0 = false := by
  cases hb : Nat.beq (m % 2) 0 with
  | false => rfl
  | true => exact absurd (Nat.eq_of_beq_eq_true hb) h
theorem TT.set_succ_leaf_succ (v : AV) (f m : Nat) : TT.set v (f + 1) .leaf (m + 1) = if m % 2 = 0 then .node undefA .leaf (TT.set v f .leaf (m / 2)) else .node undefA (TT.set v f .leaf (m / 2)) .leaf := by
  show Bool.rec (motive := fun _ => TT) (TT.node undefA (TT.set v f .leaf (m / 2)) .leaf) (TT.node undefA .leaf (TT.set v f .leaf (m / 2))) (Nat.beq (m % 2) 0) = _
  by_cases h : m % 2 = 0
  · simp [h]
  · rw [beq_mod m h, if_neg h]
theorem TT.set_succ_node_succ (v u : AV) (f m : Nat) (l r : TT) : TT.set v (f + 1) (.node u l r) (m + 1) = if m % 2 = 0 then .node u l (TT.set v f r (m / 2)) else .node u (TT.set v f l (m / 2)) r := by
  show Bool.rec (motive := fun _ => TT) (TT.node u (TT.set v f l (m / 2)) r) (TT.node u l (TT.set v f r (m / 2))) (Nat.beq (m % 2) 0) = _
  by_cases h : m % 2 = 0
  · simp [h]
  · rw [beq_mod m h, if_neg h]

theorem TT.get_set (v : AV) : ∀ (f : Nat) (t : TT) (n m : Nat), n + 1 < 2 ^ f → (TT.set v f t n).get m = if m = n then v else t.get m := by
  intro f
  induction f with
  | zero => intro t n m h; simp at h
  | succ f ih =>
    intro t n m h
    have hpow : 2 ^ (f + 1) = 2 * 2 ^ f := by rw [Nat.pow_succ, Nat.mul_comm]
    cases t with
    | leaf =>
      cases n with
      | zero =>
        rw [TT.set_succ_leaf_zero]
        cases m with
        | zero => simp
        | succ m => simp [TT.get_node_succ]
      | succ n =>
        have h' : n / 2 + 1 < 2 ^ f := by omega
        rw [TT.set_succ_leaf_succ]
        cases m with
        | zero => split <;> simp
        | succ m =>
          split <;> rename_i hn <;> rw [TT.get_node_succ] <;> split <;> rename_i hm
          · rw [ih _ _ _ h']; by_cases e : m = n
            · subst e; simp
            · have : ¬ m / 2 = n / 2 := by omega
              simp [this, e]
          · have : ¬ m = n := by omega
            simp [this]
          · have : ¬ m = n := by omega
            simp [this]
          · rw [ih _ _ _ h']; by_cases e : m = n
            · subst e; simp
            · have : ¬ m / 2 = n / 2 := by omega
              simp [this, e]
    | node u l r =>
      cases n with
      | zero =>
        rw [TT.set_succ_node_zero]
        cases m with
        | zero => simp
        | succ m => simp [TT.get_node_succ]
      | succ n =>
        have h' : n / 2 + 1 < 2 ^ f := by omega
        rw [TT.set_succ_node_succ]
        cases m with
        | zero => split <;> simp
        | succ m =>
          split <;> rename_i hn <;> rw [TT.get_node_succ, TT.get_node_succ] <;> split <;> rename_i hm
          · rw [ih _ _ _ h']; by_cases e : m = n
            · subst e; simp
            · have : ¬ m / 2 = n / 2 := by omega
              simp [this, e]
          · have : ¬ m = n := by omega
            simp [this]
          · have : ¬ m = n := by omega
            simp [this]
          · rw [ih _ _ _ h']; by_cases e : m = n
            · subst e; simp
            · have : ¬ m / 2 = n / 2 := by omega
              simp [this, e]

theorem TT.get_fill : ∀ (l : List AV) (n : Nat) (t : TT) (m : Nat), n + l.length ≤ 60000 → (TT.fill l n t).get m = if n ≤ m ∧ m < n + l.length then l.getD (m - n) undefA else t.get m := by
  intro l
  induction l with
  | nil => intro n t m _; simp [TT.fill]; intro h; omega
  | cons v l ih =>
    intro n t m h
    simp only [List.length_cons] at h
    rw [TT.fill, ih (n + 1) _ m (by omega), TT.get_set v 16 t n m (by omega)]
    by_cases h1 : n + 1 ≤ m ∧ m < n + 1 + l.length
    · rw [if_pos h1, if_pos (by simp only [List.length_cons]; omega)]
      have : m - n = (m - (n + 1)) + 1 := by omega
      rw [this]; simp
    · rw [if_neg h1]
      by_cases h2 : m = n
      · subst h2; simp
      · rw [if_neg h2, if_neg (by simp only [List.length_cons]; omega)]

/-! ### The heap's list -/
theorem findB_nil (i : Nat) : findB i [] = none := rfl
theorem findB_cons (i j : Nat) (b : ABlk) (l : List (Nat × ABlk)) : findB i ((j, b) :: l) = if i = j then some b else findB i l := by
  show Bool.rec (motive := fun _ => Option ABlk) (findB i l) (some b) (Nat.beq i j) = _
  by_cases h : i = j
  · subst h; simp
  · have : Nat.beq i j = false := by
      cases hb : Nat.beq i j with
      | false => rfl
      | true => exact absurd (Nat.eq_of_beq_eq_true hb) h
    rw [this, if_neg h]
theorem setB_cons (i j : Nat) (b c : ABlk) (l : List (Nat × ABlk)) : setB i b ((j, c) :: l) = if i = j then (j, b) :: l else (j, c) :: setB i b l := by
  show Bool.rec (motive := fun _ => List (Nat × ABlk)) ((j, c) :: setB i b l) ((j, b) :: l) (Nat.beq i j) = _
  by_cases h : i = j
  · subst h; simp
  · have : Nat.beq i j = false := by
      cases hb : Nat.beq i j with
      | false => rfl
      | true => exact absurd (Nat.eq_of_beq_eq_true hb) h
    rw [this, if_neg h]
theorem dropB_cons (i j : Nat) (c : ABlk) (l : List (Nat × ABlk)) : dropB i ((j, c) :: l) = if i = j then l else (j, c) :: dropB i l := by
  show Bool.rec (motive := fun _ => List (Nat × ABlk)) ((j, c) :: dropB i l) l (Nat.beq i j) = _
  by_cases h : i = j
  · subst h; simp
  · have : Nat.beq i j = false := by
      cases hb : Nat.beq i j with
      | false => rfl
      | true => exact absurd (Nat.eq_of_beq_eq_true hb) h
    rw [this, if_neg h]
theorem insB_cons (i j : Nat) (b c : ABlk) (l : List (Nat × ABlk)) : insB i b ((j, c) :: l) = if j < i then (i, b) :: (j, c) :: l else (j, c) :: insB i b l := by
  show Bool.rec (motive := fun _ => List (Nat × ABlk)) ((j, c) :: insB i b l) ((i, b) :: (j, c) :: l) (Nat.ble (j + 1) i) = _
  by_cases h : j < i
  · have : Nat.ble (j + 1) i = true := Nat.ble_eq_true_of_le h
    rw [this, if_pos h]
  · have : Nat.ble (j + 1) i = false := by
      cases hb : Nat.ble (j + 1) i with
      | false => rfl
      | true => exact absurd (Nat.le_of_ble_eq_true hb) h
    rw [this, if_neg h]

def keys (l : List (Nat × ABlk)) : List Nat := l.map (·.1)

theorem findB_setB (i j : Nat) (b : ABlk) : ∀ l, findB j (setB i b l) = if j = i then (findB i l).map (fun _ => b) else findB j l
  | [] => by simp [setB, findB_nil]
  | (k, c) :: l => by
    rw [setB_cons]
    split
    · rename_i h; subst h
      rw [findB_cons, findB_cons, findB_cons]
      split
      · rename_i h; subst h; simp
      · rename_i h; simp
    · rename_i h
      rw [findB_cons, findB_setB i j b l, findB_cons, findB_cons, if_neg h]
      by_cases e : j = k
      · subst e; rw [if_pos rfl, if_neg (fun e => h e.symm)]; simp
      · simp [e]

theorem findB_none {i : Nat} : ∀ {l : List (Nat × ABlk)}, i ∉ keys l → findB i l = none
  | [], _ => rfl
  | (j, b) :: l, h => by
    simp [keys] at h
    rw [findB_cons, if_neg h.1]
    exact findB_none (by simp [keys]; exact h.2)

theorem findB_key {i : Nat} {b : ABlk} : ∀ {l : List (Nat × ABlk)}, findB i l = some b → i ∈ keys l
  | [], h => by simp [findB_nil] at h
  | (j, c) :: l, h => by
    rw [findB_cons] at h
    split at h
    · rename_i e; subst e; simp [keys]
    · have := findB_key h
      simp [keys] at this ⊢
      exact .inr this

theorem findB_insB (i j : Nat) (b : ABlk) : ∀ l, i ∉ keys l → findB j (insB i b l) = if j = i then some b else findB j l
  | [], _ => by show findB j [(i, b)] = _; rw [findB_cons, findB_nil]
  | (k, c) :: l, h => by
    simp [keys] at h
    rw [insB_cons]
    split
    · rw [findB_cons]
    · rw [findB_cons, findB_insB i j b l (by simp [keys]; exact h.2), findB_cons]
      by_cases e : j = k
      · subst e; rw [if_pos rfl, if_neg (fun e => h.1 e.symm), if_pos rfl]
      · rw [if_neg e, if_neg e]

theorem keys_insB (i : Nat) (b : ABlk) : ∀ l, (keys (insB i b l)).Perm (i :: keys l)
  | [] => by show (keys [(i, b)]).Perm _; simp [keys]
  | (k, c) :: l => by
    rw [insB_cons]
    split
    · simp [keys]
    · have := keys_insB i b l
      simp only [keys, List.map_cons] at this ⊢
      exact (List.Perm.cons k this).trans (List.Perm.swap i k _)

theorem keys_setB (i : Nat) (b : ABlk) : ∀ l, keys (setB i b l) = keys l
  | [] => rfl
  | (k, c) :: l => by
    rw [setB_cons]
    split
    · simp [keys]
    · have := keys_setB i b l
      simp only [keys, List.map_cons] at this ⊢
      rw [this]

theorem findB_dropB (i j : Nat) : ∀ l, (keys l).Nodup → findB j (dropB i l) = if j = i then none else findB j l
  | [], _ => by simp [dropB, findB_nil]
  | (k, c) :: l, h => by
    simp only [keys, List.map_cons, List.nodup_cons] at h
    rw [dropB_cons]
    split
    · rename_i e; subst e
      rw [findB_cons]
      split
      · rename_i e; subst e; exact findB_none h.1
      · rfl
    · rename_i e
      rw [findB_cons, findB_dropB i j l h.2, findB_cons]
      by_cases e' : j = k
      · subst e'; rw [if_pos rfl, if_neg (fun x => e x.symm), if_pos rfl]
      · rw [if_neg e', if_neg e']

theorem keys_dropB_sub (i : Nat) : ∀ l, (keys (dropB i l)).Sublist (keys l)
  | [] => List.Sublist.refl _
  | (k, c) :: l => by
    rw [dropB_cons]
    split
    · simp [keys]
    · have := keys_dropB_sub i l
      simp only [keys, List.map_cons] at this ⊢
      exact this.cons_cons k

theorem look_some {α β : Type} {eq : α → α → Bool} {a : α} {y : β} : ∀ {l : List (α × β)}, look eq a l = some y → ∃ x, (x, y) ∈ l ∧ eq a x = true
  | [], h => by simp [look] at h
  | (x, z) :: l, h => by
    have h' : (Bool.rec (look eq a l) (some z) (eq a x) : Option β) = some y := h
    cases e : eq a x with
    | true => rw [e] at h'; simp at h'; subst h'; exact ⟨x, by simp, e⟩
    | false =>
      rw [e] at h'
      obtain ⟨x', hm, he⟩ := look_some (l := l) h'
      exact ⟨x', List.mem_cons_of_mem _ hm, he⟩

end Go.Proofs.YtmnahfonnljobaaGreatDoor.SX
/-
  A judgement on the model's pieces of code: 'wq': no halt but a panic, every access listed is let, whatever is drawn.
-/
namespace Go.Proofs.YtmnahfonnljobaaGreatDoor.SX

/-- What is asked of a piece of code in a world: Q of what it yields, E of the value with which it panics, 'Ev' of each access. -/
def wq {α : Type} (P : Program) (Ev : Event → Prop) (E : Value → World → Prop) : Sem α → (α → World → Prop) → World → Prop
  | .pure a, Q, w => Q a w
  | .load m a k, Q, w => ∃ v, w.cell? a = some v ∧ Ev ⟨.cell a, false, m == .atomic⟩ ∧ wq P Ev E (k v) Q w
  | .store m a v k, Q, w => v.oneCell' = true ∧ (∃ u, w.cell? a = some u) ∧ w.frozen? a = false ∧ Ev ⟨.cell a, true, m == .atomic⟩ ∧ wq P Ev E k Q (w.setCell a v)
  | .new o k, Q, w => wq P Ev E (k w.heap.size) Q { w with heap := w.heap.push o }
  | .shape r k, Q, w => wq P Ev E (k (w.shape? r)) Q w
  | .freeze _ _ _, _, _ => False
  | .frozen a k, Q, w => wq P Ev E (k (w.frozen? a)) Q w
  | .getObj r k, Q, w => ∃ o, w.heap[r]? = some o ∧ (∀ c e f, o ≠ .cells c e f) ∧ Ev ⟨.obj r, false, o.isChan⟩ ∧ wq P Ev E (k o) Q w
  | .setObj r o k, Q, w => (∃ o', w.heap[r]? = some o' ∧ ∀ c e f, o' ≠ .cells c e f) ∧ Ev ⟨.obj r, true, o.isChan⟩ ∧ wq P Ev E k Q { w with heap := w.heap.setIfInBounds r o }
  | .choose q k, Q, w => if q.forced then wq P Ev E (k 0) Q w else ∀ n, wq P Ev E (k (q.cut n)) Q { w with drawn := w.drawn + 1 }
  | .sys _ _, _, _ => False
  | .program k, Q, w => wq P Ev E (k P) Q w
  | .mark m k, Q, w => Ev ⟨.mark m, false, true⟩ ∧ wq P Ev E k Q w
  | .halt (.panic v), _, w => E v w
  | .halt _, _, _ => False

/-- What it says of the run. -/
def _root_.Go.Result.goes {α : Type} (Q : α → World → Prop) (E : Value → World → Prop) : Result α → Prop
  | .ok a w => Q a w
  | .halt (.panic v) w => E v w
  | .halt _ _ => False

section
variable {α β : Type} {P : Program} {Ev : Event → Prop} {E : Value → World → Prop}

theorem wq_sound (s : Sem α) : ∀ {Q : α → World → Prop} {w : World} (es : Array Event), wq P Ev E s Q w → (∀ e ∈ es, Ev e) → (s.runT P w es).1.goes Q E ∧ ∀ e ∈ (s.runT P w es).2, Ev e := by
  have push : ∀ (es : Array Event) (x : Event), (∀ e ∈ es, Ev e) → Ev x → ∀ e ∈ es.push x, Ev e := fun es x h hx e he => by
    rcases Array.mem_push.1 he with h' | rfl
    · exact h _ h'
    · exact hx
  induction s with
  | pure a => intro Q w es h he; exact ⟨h, he⟩
  | load m a k ih =>
    intro Q w es h he
    obtain ⟨v, hc, hv, hk⟩ := h
    simp only [Sem.runT, hc]
    exact ih v _ hk (push _ _ he hv)
  | store m a v k ih =>
    intro Q w es h he
    obtain ⟨h1, ⟨u, hu⟩, hf, hv, hk⟩ := h
    cases v <;> first
      | (simp [Value.oneCell'] at h1; done)
      | (simp only [Sem.runT, hu, hf, Bool.false_eq_true, if_false]; exact ih _ hk (push _ _ he hv))
  | new o k ih => intro Q w es h he; simp only [Sem.runT]; exact ih _ _ h he
  | shape r k ih => intro Q w es h he; simp only [Sem.runT]; exact ih _ _ h he
  | freeze a n k ih => intro Q w es h he; exact h.elim
  | frozen a k ih => intro Q w es h he; simp only [Sem.runT]; exact ih _ _ h he
  | getObj r k ih =>
    intro Q w es h he
    obtain ⟨o, ho, hn, hv, hk⟩ := h
    simp only [Sem.runT, ho]
    cases o <;> first
      | exact absurd rfl (hn _ _ _)
      | exact ih _ _ hk (push _ _ he hv)
  | setObj r o k ih =>
    intro Q w es h he
    obtain ⟨⟨o', ho, hn⟩, hv, hk⟩ := h
    simp only [Sem.runT, ho]
    cases o' <;> first
      | exact absurd rfl (hn _ _ _)
      | exact ih _ hk (push _ _ he hv)
  | choose q k ih =>
    intro Q w es h he
    simp only [wq] at h
    simp only [Sem.runT]
    split at h
    · rename_i hq; rw [if_pos hq]; exact ih _ _ h he
    · rename_i hq; rw [if_neg hq]; exact ih _ _ (h _) he
  | sys c k ih => intro Q w es h he; exact h.elim
  | program k ih => intro Q w es h he; simp only [Sem.runT]; exact ih _ _ h he
  | mark m k ih => intro Q w es h he; simp only [Sem.runT]; exact ih _ h.2 (push _ _ he h.1)
  | halt x =>
    intro Q w es h he
    cases x <;> first
      | exact ⟨h, he⟩
      | exact (show False from h).elim

theorem wq_run {s : Sem α} {Q : α → World → Prop} {w : World} (h : wq P Ev E s Q w) : (s.run P w).goes Q E ∧ ∀ e ∈ s.events P w #[], Ev e := by
  have := wq_sound s #[] h (by simp)
  rw [Sem.runT_fst] at this
  exact this

theorem wq_bind' (x : Sem α) (f : α → Sem β) {Q : β → World → Prop} : ∀ {w : World}, wq P Ev E (x.bind f) Q w ↔ wq P Ev E x (fun a w => wq P Ev E (f a) Q w) w := by
  induction x with
  | pure a => intro w; exact Iff.rfl
  | load m a k ih => intro w; simp only [Sem.bind, wq, ih]
  | store m a v k ih => intro w; simp only [Sem.bind, wq, ih]
  | new o k ih => intro w; simp only [Sem.bind, wq, ih]
  | shape r k ih => intro w; simp only [Sem.bind, wq, ih]
  | freeze a n k ih => intro w; simp only [Sem.bind, wq]
  | frozen a k ih => intro w; simp only [Sem.bind, wq, ih]
  | getObj r k ih => intro w; simp only [Sem.bind, wq, ih]
  | setObj r o k ih => intro w; simp only [Sem.bind, wq, ih]
  | choose q k ih => intro w; simp only [Sem.bind, wq, ih]
  | sys c k ih => intro w; simp only [Sem.bind, wq]
  | program k ih => intro w; simp only [Sem.bind, wq, ih]
  | mark m k ih => intro w; simp only [Sem.bind, wq, ih]
  | halt h => intro w; cases h <;> simp only [Sem.bind, wq]

@[simp] theorem wq_bind (x : Sem α) (f : α → Sem β) {Q : β → World → Prop} {w : World} : wq P Ev E (x >>= f) Q w ↔ wq P Ev E x (fun a w => wq P Ev E (f a) Q w) w := wq_bind' x f
@[simp] theorem wq_map (x : Sem α) (f : α → β) {Q : β → World → Prop} {w : World} : wq P Ev E (f <$> x) Q w ↔ wq P Ev E x (fun a w => Q (f a) w) w := wq_bind' x _
@[simp] theorem wq_pure (a : α) {Q : α → World → Prop} {w : World} : wq P Ev E (Pure.pure a) Q w ↔ Q a w := Iff.rfl
@[simp] theorem wq_pure' (a : α) {Q : α → World → Prop} {w : World} : wq P Ev E (Sem.pure a) Q w ↔ Q a w := Iff.rfl
@[simp] theorem wq_program {Q : Program → World → Prop} {w : World} : wq P Ev E program Q w ↔ Q P w := Iff.rfl
@[simp] theorem wq_newObj (o : Obj) {Q : Nat → World → Prop} {w : World} : wq P Ev E (newObj o) Q w ↔ Q w.heap.size { w with heap := w.heap.push o } := Iff.rfl
@[simp] theorem wq_shape (r : Nat) {Q : Option (TypeId × Nat) → World → Prop} {w : World} : wq P Ev E (shape r) Q w ↔ Q (w.shape? r) w := Iff.rfl
@[simp] theorem wq_frozen (a : Addr) {Q : Bool → World → Prop} {w : World} : wq P Ev E (frozen a) Q w ↔ Q (w.frozen? a) w := Iff.rfl
@[simp] theorem wq_mark (m : Mark) {Q : Unit → World → Prop} {w : World} : wq P Ev E (mark m) Q w ↔ Ev ⟨.mark m, false, true⟩ ∧ Q () w := Iff.rfl
@[simp] theorem wq_goPanic (v : Value) {Q : α → World → Prop} {w : World} : wq P Ev E (goPanic v) Q w ↔ E v w := Iff.rfl
theorem wq_load (a : Addr) (m : Mode) {Q : Value → World → Prop} {w : World} : wq P Ev E (load a m) Q w ↔ ∃ v, w.cell? a = some v ∧ Ev ⟨.cell a, false, m == .atomic⟩ ∧ Q v w := Iff.rfl
theorem wq_store (a : Addr) (v : Value) (m : Mode) {Q : Unit → World → Prop} {w : World} :
    wq P Ev E (store a v m) Q w ↔ v.oneCell' = true ∧ (∃ u, w.cell? a = some u) ∧ w.frozen? a = false ∧ Ev ⟨.cell a, true, m == .atomic⟩ ∧ Q () (w.setCell a v) := Iff.rfl
theorem wq_choose (q : Question) {Q : Nat → World → Prop} {w : World} : wq P Ev E (choose q) Q w ↔ if q.forced then Q 0 w else ∀ n, Q (q.cut n) { w with drawn := w.drawn + 1 } := Iff.rfl
@[simp] theorem wq_ite (c : Prop) [Decidable c] (x y : Sem α) {Q : α → World → Prop} {w : World} : wq P Ev E (if c then x else y) Q w ↔ if c then wq P Ev E x Q w else wq P Ev E y Q w := by split <;> exact Iff.rfl

theorem wq_mono {s : Sem α} {Q Q' : α → World → Prop} {E' : Value → World → Prop} (hE : ∀ v w, E v w → E' v w) (hQ : ∀ a w, Q a w → Q' a w) : ∀ {w : World}, wq P Ev E s Q w → wq P Ev E' s Q' w := by
  induction s with
  | pure a => intro w h; exact hQ _ _ h
  | load m a k ih => intro w h; obtain ⟨v, h1, h2, h3⟩ := h; exact ⟨v, h1, h2, ih _ h3⟩
  | store m a v k ih => intro w h; obtain ⟨h1, h2, h3, h4, h5⟩ := h; exact ⟨h1, h2, h3, h4, ih h5⟩
  | new o k ih => intro w h; exact ih _ h
  | shape r k ih => intro w h; exact ih _ h
  | freeze a n k ih => intro w h; exact h
  | frozen a k ih => intro w h; exact ih _ h
  | getObj r k ih => intro w h; obtain ⟨o, h1, h2, h3, h4⟩ := h; exact ⟨o, h1, h2, h3, ih _ h4⟩
  | setObj r o k ih => intro w h; obtain ⟨h1, h2, h3⟩ := h; exact ⟨h1, h2, ih h3⟩
  | choose q k ih =>
    intro w h
    simp only [wq] at h ⊢
    split
    · rename_i hq; rw [if_pos hq] at h; exact ih _ h
    · rename_i hq; rw [if_neg hq] at h; exact fun n => ih _ (h n)
  | sys c k ih => intro w h; exact h
  | program k ih => intro w h; exact ih _ h
  | mark m k ih => intro w h; exact ⟨h.1, ih h.2⟩
  | halt h => intro w hh; cases h <;> first | exact hE _ _ hh | exact hh

/-! ### What hangs on the program's tables alone -/
theorem wq_typeInfo {t : TypeId} {i : TypeInfo} (h : P.info? t = some i) {Q : TypeInfo → World → Prop} {w : World} : wq P Ev E (typeInfo t) Q w ↔ Q i w := by
  simp [typeInfo, h]
theorem wq_underlying {t : TypeId} {d : TypeDesc} (h : P.underlying t = some d) {Q : TypeDesc → World → Prop} {w : World} : wq P Ev E (underlying t) Q w ↔ Q d w := by
  simp [underlying, h]

/-- A piece of code without memory. -/
theorem wq_pureRun {s : Sem α} : ∀ {a : α}, pureRun P s = some a → ∀ {Q : α → World → Prop} {w : World}, Q a w → wq P Ev E s Q w := by
  induction s with
  | pure b => intro a h Q w hq; simp [pureRun] at h; subst h; exact hq
  | program k ih => intro a h Q w hq; exact ih P h hq
  | _ => intro a h; simp [pureRun] at h
end

/-- The program's sizes. -/
theorem sizeOf?_ok {P : Program} {t : TypeId} {n : Nat} (h : sizeOf? P t = .ok n) : ∃ i, P.info? t = some i ∧ i.size = n := by
  unfold sizeOf? at h
  split at h
  · rename_i i hi; exact ⟨i, hi, by simpa using h⟩
  · cases h
theorem under?_ok {P : Program} {t : TypeId} {d : TypeDesc} (h : under? P t = .ok d) : P.underlying t = some d := by
  unfold under? at h
  split at h
  · rename_i i hi; rw [hi]; simpa using h
  · cases h

theorem wq_sizeOf {P : Program} {Ev : Event → Prop} {E : Value → World → Prop} {t : TypeId} {n : Nat} (h : sizeOf? P t = .ok n) {Q : Nat → World → Prop} {w : World} : wq P Ev E (sizeOf t) Q w ↔ Q n w := by
  obtain ⟨i, hi, rfl⟩ := sizeOf?_ok h
  simp [sizeOf, wq_typeInfo hi]

theorem wq_isAgg {P : Program} {Ev : Event → Prop} {E : Value → World → Prop} {t : TypeId} {b : Bool} (h : isAgg? P t = .ok b) {Q : Bool → World → Prop} {w : World} : wq P Ev E (isAgg t) Q w ↔ Q b w := by
  unfold isAgg? at h
  split at h
  · rename_i hu; cases h; simp [isAgg, wq_underlying hu]
  · rename_i hu; cases h; simp [isAgg, wq_underlying hu]
  · rename_i d h1 h2 hu; cases h
    simp only [isAgg, wq_bind, wq_underlying hu]
    cases d <;> first
      | exact absurd hu (h1 _)
      | exact absurd hu (h2 _ _)
      | exact Iff.rfl
  · cases h

end Go.Proofs.YtmnahfonnljobaaGreatDoor.SX
/-
  The executor's heap against a world; numbers in use; loads, stores, new blocks.
-/
set_option linter.unusedSectionVars false
namespace Go.Proofs.YtmnahfonnljobaaGreatDoor.SX

/-! ### Numbers in use -/
def IE.In (U : Nat → Prop) : IE → Prop
  | .lit _ => True
  | .var i => U i
  | .op _ _ a b => a.In U ∧ b.In U
  | .conv _ a => a.In U
  | .plus a b => a.In U ∧ b.In U
  | .times a b => a.In U ∧ b.In U
  | .tn a => a.In U
def BE.In (U : Nat → Prop) : BE → Prop
  | .lit _ => True
  | .var _ => True
  | .cmp _ a b => a.In U ∧ b.In U
def BR.In (U : Nat → Prop) : BR → Prop
  | .glob _ => True
  | .dyn i => U i
def AA.In (U : Nat → Prop) (a : AA) : Prop := a.blk.In U ∧ a.off.In U
def optIn {α : Type} (f : α → Prop) : Option α → Prop
  | none => True
  | some a => f a
mutual
def AV.In (U : Nat → Prop) : AV → Prop
  | .bool b => b.In U
  | .int _ e => e.In U
  | .ptr a => optIn (AA.In U) a
  | .slice a l c => optIn (AA.In U) a ∧ l.In U ∧ c.In U
  | .map r => optIn (BR.In U) r
  | .chan r => optIn (BR.In U) r
  | .func _ x y => AV.Ins U x ∧ AV.Ins U y
  | .iface _ v => v.In U
  | .agg x => AV.Ins U x
  | .tuple x => AV.Ins U x
  | .str _ => True
  | .nilFunc => True
  | .nilIface => True
  | .opq _ => True
  | .raw _ => True
def AV.Ins (U : Nat → Prop) : List AV → Prop
  | [] => True
  | a :: x => a.In U ∧ AV.Ins U x
end
def ABlk.In (U : Nat → Prop) : ABlk → Prop
  | .cells cs _ => AV.Ins U cs
  | .row cs _ c => AV.Ins U cs ∧ c.In U
  | .lent cs _ _ => AV.Ins U cs
  | .map es => ∀ p ∈ es, p.1.In U ∧ p.2.In U
  | .chan => True
  | .vmap _ n fs ws => n.In U ∧ (∀ p ∈ fs, p.1.In U ∧ optIn (AV.In U) p.2) ∧ ∀ p ∈ ws, p.1.In U ∧ p.2.In U
  | .pre _ _ n fs ws cs _ c => n.In U ∧ (∀ p ∈ fs, p.1.In U ∧ p.2.In U) ∧ (∀ p ∈ ws, p.1.In U ∧ p.2.In U) ∧ AV.Ins U cs ∧ c.In U
def TT.In (U : Nat → Prop) (t : TT) : Prop := ∀ n, (t.get n).In U
structure Orc.In (U : Nat → Prop) (O : Orc) : Prop where
  bs : ∀ p ∈ O.bs, p.1.In U
  is : ∀ p ∈ O.is, p.1.In U ∧ p.2.In U
  mem : ∀ p ∈ O.mem, p.1.In U ∧ p.2.In U

theorem Ins_iff {U : Nat → Prop} : ∀ {l : List AV}, AV.Ins U l ↔ ∀ a ∈ l, a.In U
  | [] => by simp [AV.Ins]
  | a :: l => by simp [AV.Ins, Ins_iff (l := l)]

/-- Two assignments that are one on the numbers in use. -/
structure Agree (U : Nat → Prop) (ρ ρ' : Env) : Prop where
  p : ρ'.p = ρ.p
  v : ρ'.v = ρ.v
  bt : ρ'.bt = ρ.bt
  i : ∀ n, U n → ρ'.i n = ρ.i n
  b : ∀ n, U n → ρ'.b n = ρ.b n

theorem Agree.refl (U : Nat → Prop) (ρ : Env) : Agree U ρ ρ := ⟨rfl, rfl, rfl, fun _ _ => rfl, fun _ _ => rfl⟩
theorem Agree.trans {U U' : Nat → Prop} {ρ ρ' ρ'' : Env} (h : Agree U ρ ρ') (h' : Agree U' ρ' ρ'') (hs : ∀ n, U n → U' n) : Agree U ρ ρ'' :=
  ⟨h'.p.trans h.p, h'.v.trans h.v, h'.bt.trans h.bt, fun n hn => (h'.i n (hs n hn)).trans (h.i n hn), fun n hn => (h'.b n (hs n hn)).trans (h.b n hn)⟩
theorem Agree.mono {U U' : Nat → Prop} {ρ ρ' : Env} (h : Agree U' ρ ρ') (hs : ∀ n, U n → U' n) : Agree U ρ ρ' :=
  ⟨h.p, h.v, h.bt, fun n hn => h.i n (hs n hn), fun n hn => h.b n (hs n hn)⟩

section
variable {U : Nat → Prop} {ρ ρ' : Env}
theorem IE.ev_agree (h : Agree U ρ ρ') : ∀ {e : IE}, e.In U → e.ev ρ' = e.ev ρ := by
  intro e
  induction e with
  | lit n => intro _; rfl
  | var i => intro hi; exact h.i i hi
  | op o k a b iha ihb => intro hi; simp only [IE.ev]; rw [iha hi.1, ihb hi.2]
  | conv k a ih => intro hi; simp only [IE.ev]; rw [ih hi]
  | plus a b iha ihb => intro hi; simp only [IE.ev]; rw [iha hi.1, ihb hi.2]
  | times a b iha ihb => intro hi; simp only [IE.ev]; rw [iha hi.1, ihb hi.2]
  | tn a ih => intro hi; simp only [IE.ev]; rw [ih hi]
theorem BE.ev_agree (h : Agree U ρ ρ') {e : BE} (hi : e.In U) : e.ev ρ' = e.ev ρ := by
  cases e with
  | lit b => rfl
  | var i => simp [BE.ev, h.p]
  | cmp o a b => simp only [BE.ev]; rw [IE.ev_agree h hi.1, IE.ev_agree h hi.2]
theorem BR.ev_agree (h : Agree U ρ ρ') {e : BR} (hi : e.In U) : e.ev ρ' = e.ev ρ := by
  cases e with
  | glob g => rfl
  | dyn i => exact h.b i hi
theorem AA.ev_agree (h : Agree U ρ ρ') {e : AA} (hi : e.In U) : e.ev ρ' = e.ev ρ := by
  simp only [AA.ev, BR.ev_agree h hi.1, IE.ev_agree h hi.2]
theorem opt_agree {α β : Type} {f g : α → β} {I : α → Prop} (hf : ∀ {a}, I a → f a = g a) : ∀ {o : Option α}, optIn I o → o.map f = o.map g
  | none, _ => rfl
  | some a, h => by simp [hf h]
mutual
theorem AV.ev_agree (h : Agree U ρ ρ') : ∀ (a : AV), a.In U → a.ev ρ' = a.ev ρ
  | .bool b, hi => by simp only [AV.ev, BE.ev_agree h hi]
  | .int k e, hi => by simp only [AV.ev, IE.ev_agree h hi]
  | .str s, _ => rfl
  | .ptr a, hi => by simp only [AV.ev]; rw [opt_agree (fun x => AA.ev_agree h x) hi]
  | .slice a l c, hi => by simp only [AV.ev]; rw [opt_agree (fun x => AA.ev_agree h x) hi.1, IE.ev_agree h hi.2.1, IE.ev_agree h hi.2.2]
  | .map r, hi => by simp only [AV.ev]; rw [opt_agree (fun x => BR.ev_agree h x) hi]
  | .chan r, hi => by simp only [AV.ev]; rw [opt_agree (fun x => BR.ev_agree h x) hi]
  | .func f x y, hi => by simp only [AV.ev]; rw [AV.evs_agree h x hi.1, AV.evs_agree h y hi.2]
  | .nilFunc, _ => rfl
  | .iface t v, hi => by simp only [AV.ev]; rw [AV.ev_agree h v hi]
  | .nilIface, _ => rfl
  | .agg x, hi => by simp only [AV.ev]; rw [AV.evs_agree h x hi]
  | .tuple x, hi => by simp only [AV.ev]; rw [AV.evs_agree h x hi]
  | .opq i, _ => by simp only [AV.ev, h.v]
  | .raw v, _ => rfl
theorem AV.evs_agree (h : Agree U ρ ρ') : ∀ (l : List AV), AV.Ins U l → AV.evs ρ' l = AV.evs ρ l
  | [], _ => rfl
  | a :: l, hi => by simp only [AV.evs]; rw [AV.ev_agree h a hi.1, AV.evs_agree h l hi.2]
end
end

/-! monotone -/
section
variable {U U' : Nat → Prop} (hs : ∀ n, U n → U' n)
 include hs
theorem IE.In.mono : ∀ {e : IE}, e.In U → e.In U' := by
  intro e
  induction e with
  | lit n => intro _; trivial
  | var i => exact hs i
  | op o k a b iha ihb => exact fun h => ⟨iha h.1, ihb h.2⟩
  | conv k a ih => exact ih
  | plus a b iha ihb => exact fun h => ⟨iha h.1, ihb h.2⟩
  | times a b iha ihb => exact fun h => ⟨iha h.1, ihb h.2⟩
  | tn a ih => exact ih
theorem BE.In.mono {e : BE} (h : e.In U) : e.In U' := by
  cases e with
  | cmp o a b => exact ⟨IE.In.mono hs h.1, IE.In.mono hs h.2⟩
  | _ => trivial
theorem BR.In.mono {e : BR} (h : e.In U) : e.In U' := by
  cases e with
  | glob g => trivial
  | dyn i => exact hs i h
theorem AA.In.mono {e : AA} (h : e.In U) : e.In U' := ⟨BR.In.mono hs h.1, IE.In.mono hs h.2⟩
theorem optIn.mono {α : Type} {f g : α → Prop} (hf : ∀ {a}, f a → g a) : ∀ {o : Option α}, optIn f o → optIn g o
  | none, _ => trivial
  | some _, h => hf h
mutual
theorem AV.In.mono : ∀ (a : AV), a.In U → a.In U'
  | .bool _, h => BE.In.mono hs h
  | .int _ _, h => IE.In.mono hs h
  | .str _, _ => trivial
  | .ptr _, h => optIn.mono hs (fun x => AA.In.mono hs x) h
  | .slice _ _ _, h => ⟨optIn.mono hs (fun x => AA.In.mono hs x) h.1, IE.In.mono hs h.2.1, IE.In.mono hs h.2.2⟩
  | .map _, h => optIn.mono hs (fun x => BR.In.mono hs x) h
  | .chan _, h => optIn.mono hs (fun x => BR.In.mono hs x) h
  | .func _ x y, h => ⟨AV.Ins.mono x h.1, AV.Ins.mono y h.2⟩
  | .nilFunc, _ => trivial
  | .iface _ v, h => AV.In.mono v h
  | .nilIface, _ => trivial
  | .agg x, h => AV.Ins.mono x h
  | .tuple x, h => AV.Ins.mono x h
  | .opq _, _ => trivial
  | .raw _, _ => trivial
theorem AV.Ins.mono : ∀ (l : List AV), AV.Ins U l → AV.Ins U' l
  | [], _ => trivial
  | a :: l, h => ⟨AV.In.mono a h.1, AV.Ins.mono l h.2⟩
end
theorem ABlk.In.mono {b : ABlk} (h : b.In U) : b.In U' := by
  cases b with
  | cells cs e => exact AV.Ins.mono hs _ h
  | row cs e c => exact ⟨AV.Ins.mono hs _ h.1, IE.In.mono hs h.2⟩
  | lent cs e l => exact AV.Ins.mono hs _ h
  | map es => exact fun p hp => ⟨AV.In.mono hs _ (h p hp).1, AV.In.mono hs _ (h p hp).2⟩
  | chan => trivial
  | vmap s n fs ws => exact ⟨IE.In.mono hs h.1, fun p hp => ⟨AA.In.mono hs (h.2.1 p hp).1, optIn.mono hs (fun x => AV.In.mono hs _ x) (h.2.1 p hp).2⟩, fun p hp => ⟨AV.In.mono hs _ (h.2.2 p hp).1, AV.In.mono hs _ (h.2.2 p hp).2⟩⟩
  | pre lk s n fs ws cs e c => exact ⟨IE.In.mono hs h.1, fun p hp => ⟨IE.In.mono hs (h.2.1 p hp).1, AV.In.mono hs _ (h.2.1 p hp).2⟩, fun p hp => ⟨IE.In.mono hs (h.2.2.1 p hp).1, AV.In.mono hs _ (h.2.2.1 p hp).2⟩, AV.Ins.mono hs _ h.2.2.2.1, IE.In.mono hs h.2.2.2.2⟩
theorem TT.In.mono {t : TT} (h : t.In U) : t.In U' := fun n => AV.In.mono hs _ (h n)
theorem Orc.In.mono {O : Orc} (h : O.In U) : O.In U' :=
  ⟨fun p hp => BE.In.mono hs (h.bs p hp), fun p hp => ⟨IE.In.mono hs (h.is p hp).1, IE.In.mono hs (h.is p hp).2⟩, fun p hp => ⟨AA.In.mono hs (h.mem p hp).1, AV.In.mono hs _ (h.mem p hp).2⟩⟩
end

/-! ### The world -/
structure Ctx where
  P : Program
  O : Orc
  own : Nat → Prop
  Ev : Event → Prop
  lock : Prop
  /-- cells that nobody writes -/
  still : Nat → Nat → Prop

/-- Marks that touch nothing and leave one hearing. -/
def markOk : Mark → Bool
  | .acquire _ | .release _ | .releaseMerge _ | .extern _ | .noRoom => true
  | _ => false

structure Ctx.Good (K : Ctx) : Prop where
  rd : ∀ a s, K.own a.block → K.Ev ⟨.cell a, false, s⟩
  wr : ∀ a s, K.own a.block → ¬ K.still a.block a.off → K.Ev ⟨.cell a, true, s⟩
  noWr : ∀ b n s, K.still b n → ¬ K.Ev ⟨.cell ⟨b, n, none⟩, true, s⟩
  ext : ∀ m, markOk m = true → K.Ev ⟨.mark m, false, true⟩
  noRoom : K.Ev ⟨.mark .noRoom, false, true⟩
  lock : K.lock → ∀ m, K.Ev ⟨.mark m, false, true⟩
  obj : ∀ r wr s, K.own r → K.Ev ⟨.obj r, wr, s⟩

def ABlk.elem : ABlk → TypeId
  | .cells _ e => e
  | .row _ e _ => e
  | .lent _ e _ => e
  | .map _ => 0
  | .chan => 0
  | .vmap _ _ _ _ => 0
  | .pre _ _ _ _ _ _ e _ => e

/-- A list some cells of which are written, the last one first. -/
def wrote (ρ : Env) (l : List Value) (ws : List (IE × AV)) : List Value := ws.foldr (fun p l => l.set (p.1.ev ρ).toNat (p.2.ev ρ)) l
/-- A veiled list and what is known of it. -/
structure PreIs (P : Program) (ρ : Env) (s : Nat) (n : IE) (fs ws : List (IE × AV)) (e : TypeId) (i : TypeInfo) (pre : Array Value) : Prop where
  val : ρ.v s = .agg pre
  info : P.info? e = some i
  size : pre.size = (n.ev ρ).toNat * i.size
  fs : ∀ p ∈ fs, pre[(p.1.ev ρ).toNat]? = some (p.2.ev ρ)
  ws : ∀ p ∈ ws, (p.1.ev ρ).toNat < pre.size

def ABlk.fits (P : Program) (ρ : Env) : ABlk → Array Value → Prop
  | .cells cs _, arr => arr.toList = AV.evs ρ cs
  | .lent cs _ _, arr => arr.toList = AV.evs ρ cs
  | .row cs e c, arr => ∃ rest i, arr.toList = AV.evs ρ cs ++ rest ∧ P.info? e = some i ∧ arr.size = (c.ev ρ).toNat * i.size
  | .map _, _ => False
  | .chan, _ => False
  | .vmap _ _ _ _, _ => False
  | .pre _ s n fs ws cs e c, arr => ∃ pre rest i, PreIs P ρ s n fs ws e i pre ∧ arr.toList = wrote ρ pre.toList ws ++ (AV.evs ρ cs ++ rest) ∧ arr.size = (c.ev ρ).toNat * i.size

/-- Entries as a value. -/
def encE (E : List (Value × Value)) : Value := .agg (E.map fun p => Value.agg #[p.1, p.2]).toArray
/-- What is known of a key: all keys lie in its block; it leads there, or it is not there. -/
def KeyIs (ρ : Env) (E : List (Value × Value)) (a : AA) (r : Option AV) : Prop :=
  (∀ q ∈ E, ∃ off, q.1 = .pointer (some ⟨(a.ev ρ).block, off, none⟩)) ∧ match r with
    | some v => ∃ E1 E2, E = E1 ++ (.pointer (some (a.ev ρ)), v.ev ρ) :: E2 ∧ ∀ q ∈ E1, q.1 ≠ .pointer (some (a.ev ρ))
    | none => ∀ q ∈ E, q.1 ≠ .pointer (some (a.ev ρ))

/-- What is no cells. -/
def ABlk.thing (ρ : Env) : ABlk → Obj → Prop
  | .map es, o => ∃ arr clk, o = .map arr clk ∧ arr.toList.map (fun e => (e.key, e.val)) = es.map fun p => (p.1.ev ρ, p.2.ev ρ)
  | .chan, o => ∃ k, o = .chan 0 #[] false k k false
  | .vmap s n fs ws, o => ∃ arr clk E, o = .map arr clk ∧ ρ.v s = encE E ∧ E.length = (n.ev ρ).toNat ∧ arr.toList.map (fun e => (e.key, e.val)) = E ++ ws.map (fun p => (p.1.ev ρ, p.2.ev ρ)) ∧ ∀ p ∈ fs, KeyIs ρ E p.1 p.2
  | _, _ => False

def ABlk.is (P : Program) (ρ : Env) (b : ABlk) (o : Obj) : Prop := (∃ arr, o = .cells arr b.elem (0, 0) ∧ b.fits P ρ arr) ∨ b.thing ρ o

/-- Nobody writes that cell. -/
def ABlk.lentAt (P : Program) (ρ : Env) : ABlk → Nat → Prop
  | .pre lk _ m _ _ _ e _, n => lk = true ∧ ∃ i, P.info? e = some i ∧ n < (m.ev ρ).toNat * i.size
  | b, n => b.isLent n = true

structure Rel (K : Ctx) (ρ : Env) (h : AH) (w : World) : Prop where
  blk : ∀ i b, findB i h.hp = some b → ∃ o, w.heap[ρ.b i]? = some o ∧ b.is K.P ρ o
  own' : ∀ i b, findB i h.hp = some b → K.own (ρ.b i) ∨ (b.isChan = true ∧ K.still (ρ.b i) 0)
  inj : ∀ i j b c, findB i h.hp = some b → findB j h.hp = some c → ρ.b i = ρ.b j → i = j
  bs : ∀ p ∈ K.O.bs, p.1.ev ρ = p.2
  is : ∀ p ∈ K.O.is, p.1.ev ρ = p.2.ev ρ
  mem : ∀ p ∈ K.O.mem, ¬ K.own (p.1.ev ρ).block ∧ w.cell? (p.1.ev ρ) = some (p.2.ev ρ) ∧ ∀ s, K.Ev ⟨.cell (p.1.ev ρ), false, s⟩
  room : ∀ n, w.heap.size ≤ n → K.own n
  lent : ∀ i b, findB i h.hp = some b → ∀ n, K.still (ρ.b i) n → b.lentAt K.P ρ n
  low : ∀ b n, K.still b n → b < w.heap.size

structure Ids (K : Ctx) (U : Nat → Prop) (h : AH) : Prop where
  hp : ∀ i b, findB i h.hp = some b → b.In U
  keys : ∀ i ∈ keys h.hp, U i
  nodup : (Go.Proofs.YtmnahfonnljobaaGreatDoor.SX.keys h.hp).Nodup
  fresh : ∀ n, h.nb ≤ n → n < h.lim → ¬ U n
  orc : K.O.In U

/-- What the goroutine does not own stays; nothing goes. -/
structure Keeps (own : Nat → Prop) (w w' : World) : Prop where
  heap : ∀ n, ¬ own n → w'.heap[n]? = w.heap[n]?
  size : w.heap.size ≤ w'.heap.size
  tape : w'.tape = w.tape
  os : w'.os = w.os
  output : w'.output = w.output

theorem Keeps.refl (own : Nat → Prop) (w : World) : Keeps own w w := ⟨fun _ _ => rfl, Nat.le_refl _, rfl, rfl, rfl⟩
theorem Keeps.trans {own : Nat → Prop} {w w' w'' : World} (h : Keeps own w w') (h' : Keeps own w' w'') : Keeps own w w'' :=
  ⟨fun n hn => (h'.heap n hn).trans (h.heap n hn), Nat.le_trans h.size h'.size, h'.tape.trans h.tape, h'.os.trans h.os, h'.output.trans h.output⟩

theorem heap_lt {w : World} {n : Nat} {o : Obj} (h : w.heap[n]? = some o) : n < w.heap.size := by
  rcases Nat.lt_or_ge n w.heap.size with h' | h'
  · exact h'
  · simp [Array.getElem?_eq_none h'] at h

theorem cell?_of {w : World} {b o : Nat} {arr : Array Value} {e : TypeId} {f : Nat × Nat} (h : w.heap[b]? = some (.cells arr e f)) : w.cell? ⟨b, o, none⟩ = arr[o]? := by
  simp [World.cell?, h]
theorem frozen?_of {w : World} {b o : Nat} {arr : Array Value} {e : TypeId} (h : w.heap[b]? = some (.cells arr e (0, 0))) : w.frozen? ⟨b, o, none⟩ = false := by
  simp [World.frozen?, h]

theorem evs_get (ρ : Env) (l : List AV) (n : Nat) : (AV.evs ρ l)[n]? = (l[n]?).map (AV.ev ρ) := by
  rw [evs_map]; simp
theorem evs_length (ρ : Env) (l : List AV) : (AV.evs ρ l).length = l.length := by rw [evs_map]; simp
theorem evs_append (ρ : Env) (l m : List AV) : AV.evs ρ (l ++ m) = AV.evs ρ l ++ AV.evs ρ m := by simp [evs_map]
theorem evs_set (ρ : Env) (l : List AV) (n : Nat) (v : AV) : AV.evs ρ (l.set n v) = (AV.evs ρ l).set n (v.ev ρ) := by simp [evs_map, List.map_set]

/-- A block's known cells, in whatever form. -/
theorem fits_get {P : Program} {ρ : Env} {b : ABlk} {arr : Array Value} (h : b.fits P ρ arr) {n : Nat} {v : AV} (hn : b.cs[n]? = some v) : arr[n]? = some (v.ev ρ) := by
  have hlt : n < b.cs.length := (List.getElem?_eq_some_iff.1 hn).1
  cases b with
  | cells cs e =>
    simp only [ABlk.fits] at h
    rw [← Array.getElem?_toList, h, evs_get]
    simp only [ABlk.cs] at hn
    rw [hn]; rfl
  | lent cs e l =>
    simp only [ABlk.fits] at h
    rw [← Array.getElem?_toList, h, evs_get]
    simp only [ABlk.cs] at hn
    rw [hn]; rfl
  | row cs e c =>
    obtain ⟨rest, i, h1, h2, h3⟩ := h
    simp only [ABlk.cs] at hn hlt
    rw [← Array.getElem?_toList, h1, List.getElem?_append_left (by rw [evs_length]; exact hlt), evs_get, hn]; rfl
  | map es => exact h.elim
  | chan => exact h.elim
  | vmap s n fs ws => exact h.elim
  | pre lk s n fs ws cs e c => simp [ABlk.cs] at hlt

theorem fits_set {P : Program} {ρ : Env} {b : ABlk} {arr : Array Value} (h : b.fits P ρ arr) {n : Nat} {v : AV} (hn : n < b.cs.length) : (b.put (b.cs.set n v)).fits P ρ (arr.setIfInBounds n (v.ev ρ)) := by
  cases b with
  | cells cs e =>
    simp only [ABlk.fits, ABlk.put, ABlk.cs] at h ⊢
    rw [Array.toList_setIfInBounds, h, evs_set]
  | lent cs e l =>
    simp only [ABlk.fits, ABlk.put, ABlk.cs] at h ⊢
    rw [Array.toList_setIfInBounds, h, evs_set]
  | row cs e c =>
    obtain ⟨rest, i, h1, h2, h3⟩ := h
    simp only [ABlk.cs] at hn
    refine ⟨rest, i, ?_, h2, by simpa using h3⟩
    simp only [ABlk.cs]
    rw [Array.toList_setIfInBounds, h1, evs_set, List.set_append_left _ _ (by rw [evs_length]; exact hn)]
  | map es => exact h.elim
  | chan => exact h.elim
  | vmap s n fs ws => exact h.elim
  | pre lk s n fs ws cs e c => simp [ABlk.cs] at hn

theorem wrote_agree {U : Nat → Prop} {ρ ρ' : Env} (ha : Agree U ρ ρ') (l : List Value) : ∀ {ws : List (IE × AV)}, (∀ p ∈ ws, p.1.In U ∧ p.2.In U) → wrote ρ' l ws = wrote ρ l ws
  | [], _ => rfl
  | p :: ws, h => by
    have h1 := wrote_agree ha l (ws := ws) fun q hq => h q (List.mem_cons_of_mem _ hq)
    show (wrote ρ' l ws).set _ _ = (wrote ρ l ws).set _ _
    rw [h1, IE.ev_agree ha (h p (List.mem_cons_self ..)).1, AV.ev_agree ha _ (h p (List.mem_cons_self ..)).2]
theorem PreIs.agree {P : Program} {U : Nat → Prop} {ρ ρ' : Env} (ha : Agree U ρ ρ') {s : Nat} {n : IE} {fs ws : List (IE × AV)} {e : TypeId} {i : TypeInfo} {pre : Array Value} (hn : n.In U) (hf : ∀ p ∈ fs, p.1.In U ∧ p.2.In U) (hw : ∀ p ∈ ws, p.1.In U ∧ p.2.In U) (h : PreIs P ρ s n fs ws e i pre) : PreIs P ρ' s n fs ws e i pre :=
  ⟨by rw [ha.v]; exact h.val, h.info, by rw [IE.ev_agree ha hn]; exact h.size, fun p hp => by rw [IE.ev_agree ha (hf p hp).1, AV.ev_agree ha _ (hf p hp).2]; exact h.fs p hp, fun p hp => by rw [IE.ev_agree ha (hw p hp).1]; exact h.ws p hp⟩
theorem isLent_put (b : ABlk) (cs : List AV) (n : Nat) : (b.put cs).isLent n = b.isLent n := by cases b <;> rfl
theorem lentAt_lt {P : Program} {ρ : Env} {b : ABlk} {n m : Nat} (h : m < b.cs.length) (hl : b.lentAt P ρ n) : b.isLent n = true := by
  cases b <;> first | exact hl | (simp [ABlk.cs] at h)
theorem lentAt_of {P : Program} {ρ : Env} {b : ABlk} {n : Nat} (h : b.isLent n = true) : b.lentAt P ρ n := by
  cases b <;> first | exact h | cases h
theorem lentAt_put {P : Program} {ρ : Env} {b : ABlk} {m : Nat} (h : m < b.cs.length) (cs : List AV) (n : Nat) (P' : Program) (ρ' : Env) : (b.put cs).lentAt P' ρ' n ↔ b.lentAt P ρ n := by
  cases b <;> first | exact Iff.rfl | (simp [ABlk.cs] at h)
theorem lentAt_agree {P : Program} {U : Nat → Prop} {ρ ρ' : Env} (A : Agree U ρ ρ') {b : ABlk} (hb : b.In U) {n : Nat} : b.lentAt P ρ' n ↔ b.lentAt P ρ n := by
  cases b with
  | pre lk s m fs ws cs e c => simp only [ABlk.lentAt, IE.ev_agree A hb.1]
  | _ => exact Iff.rfl
theorem put_elem (b : ABlk) (cs : List AV) : (b.put cs).elem = b.elem := by cases b <;> rfl
theorem fits_agree {P : Program} {U : Nat → Prop} {ρ ρ' : Env} (ha : Agree U ρ ρ') {b : ABlk} (hb : b.In U) {arr : Array Value} (h : b.fits P ρ arr) : b.fits P ρ' arr := by
  cases b with
  | cells cs e => simp only [ABlk.fits] at h ⊢; rw [AV.evs_agree ha _ hb]; exact h
  | lent cs e l => simp only [ABlk.fits] at h ⊢; rw [AV.evs_agree ha _ hb]; exact h
  | row cs e c =>
    obtain ⟨rest, i, h1, h2, h3⟩ := h
    exact ⟨rest, i, by rw [AV.evs_agree ha _ hb.1]; exact h1, h2, by rw [IE.ev_agree ha hb.2]; exact h3⟩
  | map es => exact h.elim
  | chan => exact h.elim
  | vmap s n fs ws => exact h.elim
  | pre lk s n fs ws cs e c =>
    obtain ⟨pre, rest, i, h1, h2, h3⟩ := h
    obtain ⟨b1, b2, b3, b4, b5⟩ := hb
    exact ⟨pre, rest, i, h1.agree ha b1 b2 b3, by rw [wrote_agree ha _ b3, AV.evs_agree ha _ b4]; exact h2, by rw [IE.ev_agree ha b5]; exact h3⟩
theorem thing_agree {U : Nat → Prop} {ρ ρ' : Env} (ha : Agree U ρ ρ') {b : ABlk} (hb : b.In U) {o : Obj} (h : b.thing ρ o) : b.thing ρ' o := by
  cases b with
  | map es =>
    obtain ⟨arr, clk, h1, h2⟩ := h
    refine ⟨arr, clk, h1, h2.trans (List.map_congr_left fun p hp => ?_)⟩
    rw [AV.ev_agree ha _ (hb p hp).1, AV.ev_agree ha _ (hb p hp).2]
  | chan => exact h
  | vmap s n fs ws =>
    obtain ⟨arr, clk, E, h1, h2, h3, h4, h5⟩ := h
    obtain ⟨b1, b2, b3⟩ := hb
    refine ⟨arr, clk, E, h1, by rw [ha.v]; exact h2, by rw [IE.ev_agree ha b1]; exact h3, h4.trans ?_, fun p hp => ?_⟩
    · congr 1
      refine List.map_congr_left fun p hp => ?_
      rw [AV.ev_agree ha _ (b3 p hp).1, AV.ev_agree ha _ (b3 p hp).2]
    · obtain ⟨k1, k2⟩ := h5 p hp
      obtain ⟨c1, c2⟩ := b2 p hp
      unfold KeyIs
      rw [AA.ev_agree ha c1]
      refine ⟨k1, ?_⟩
      obtain ⟨a, r⟩ := p
      cases r with
      | none => exact k2
      | some v =>
        have c2' : v.In U := c2
        dsimp only at k2 ⊢
        rw [AV.ev_agree ha _ c2']
        exact k2
  | _ => exact h.elim
theorem is_agree {P : Program} {U : Nat → Prop} {ρ ρ' : Env} (ha : Agree U ρ ρ') {b : ABlk} (hb : b.In U) {o : Obj} (h : b.is P ρ o) : b.is P ρ' o :=
  h.elim (fun ⟨arr, h1, h2⟩ => .inl ⟨arr, h1, fits_agree ha hb h2⟩) fun h => .inr (thing_agree ha hb h)
theorem isMem_lt {b : ABlk} {n : Nat} (h : n < b.cs.length) : b.isMem = true := by
  cases b <;> first | rfl | (simp [ABlk.cs] at h)
theorem isMem_get {b : ABlk} {n : Nat} {v : AV} (h : b.cs[n]? = some v) : b.isMem = true := isMem_lt (List.getElem?_eq_some_iff.1 h).1
theorem is_mem {P : Program} {ρ : Env} {b : ABlk} {o : Obj} (h : b.is P ρ o) (hm : b.isMem = true) : ∃ arr, o = .cells arr b.elem (0, 0) ∧ b.fits P ρ arr := by
  rcases h with h | h
  · exact h
  · cases b with
    | map es => cases hm
    | chan => cases hm
    | vmap s n fs ws => cases hm
    | _ => exact h.elim
theorem Rel.arr {K : Ctx} {ρ : Env} {h : AH} {w : World} (R : Rel K ρ h w) {i : Nat} {b : ABlk} (hb : findB i h.hp = some b) (hm : b.isMem = true) : ∃ arr, w.heap[ρ.b i]? = some (.cells arr b.elem (0, 0)) ∧ b.fits K.P ρ arr := by
  obtain ⟨o, h1, h2⟩ := R.blk i b hb
  obtain ⟨arr, rfl, h3⟩ := is_mem h2 hm
  exact ⟨arr, h1, h3⟩

section
variable {K : Ctx} {ρ : Env} {h : AH} {w : World} {U : Nat → Prop}

/-- The world may be drawn from. -/
theorem Rel.at (R : Rel K ρ h w) {w' : World} (hh : w'.heap = w.heap) : Rel K ρ h w' :=
  ⟨fun i b hb => by rw [hh]; exact R.blk i b hb, R.own', R.inj, R.bs, R.is, fun p hp => by have := R.mem p hp; rw [show w'.cell? (p.1.ev ρ) = w.cell? (p.1.ev ρ) from by simp [World.cell?, hh]]; exact this, by rw [hh]; exact R.room, R.lent, by rw [hh]; exact R.low⟩

/-! #### Loads -/
theorem Rel.own {K : Ctx} {ρ : Env} {h : AH} {w : World} (R : Rel K ρ h w) (i : Nat) (b : ABlk) (hb : findB i h.hp = some b) (hc : b.isChan = false) : K.own (ρ.b i) :=
  (R.own' i b hb).elim id fun x => by rw [hc] at x; cases x.1

theorem notChan_lt {b : ABlk} {n : Nat} (h : n < b.cs.length) : b.isChan = false := by cases b <;> first | rfl | (simp [ABlk.cs] at h)
theorem notChan_get {b : ABlk} {n : Nat} {v : AV} (h : b.cs[n]? = some v) : b.isChan = false := notChan_lt (List.getElem?_eq_some_iff.1 h).1

/-! #### Cells of a veiled list -/
theorem baseOf_both (ρ : Env) : ∀ (e : IE), (e.ev ρ).toNat = ((baseOf e).1.ev ρ).toNat + (baseOf e).2 ∧ ∀ c, e = .tn c → (c.ev ρ).toNat = ((baseOf c).1.ev ρ).toNat + (baseOf c).2 := by
  intro e
  induction e with
  | plus a b iha ihb =>
    refine ⟨?_, fun c h => by cases h⟩
    cases a with
    | tn c =>
      cases b with
      | lit n =>
        cases n with
        | ofNat j =>
          have ih := iha.2 c rfl
          simp only [baseOf, IE.ev]
          have : (((c.ev ρ).toNat : Int) + Int.ofNat j).toNat = (c.ev ρ).toNat + j := by simp; omega
          rw [this, ih]; omega
        | negSucc j => simp [baseOf]
      | _ => simp [baseOf]
    | _ => simp [baseOf]
  | lit n => exact ⟨by cases n <;> simp [baseOf, IE.ev], fun c h => by cases h⟩
  | tn a ih => exact ⟨by simp [baseOf], fun c h => by cases h; exact ih.1⟩
  | _ => exact ⟨by simp [baseOf], fun c h => by cases h⟩
theorem baseOf_ev (ρ : Env) (e : IE) : (e.ev ρ).toNat = ((baseOf e).1.ev ρ).toNat + (baseOf e).2 := (baseOf_both ρ e).1
theorem sameAt_ev {a b : IE} (h : sameAt a b = true) (ρ : Env) : (a.ev ρ).toNat = (b.ev ρ).toNat := by
  unfold sameAt at h
  rw [Bool.and_eq_true] at h
  rw [baseOf_ev ρ a, baseOf_ev ρ b, IE.eqb_eq h.1, Nat.eq_of_beq_eq_true h.2]
theorem apartAt_ev {a b : IE} (h : apartAt a b = true) (ρ : Env) : (a.ev ρ).toNat ≠ (b.ev ρ).toNat := by
  unfold apartAt at h
  rw [Bool.and_eq_true] at h
  rw [baseOf_ev ρ a, baseOf_ev ρ b, IE.eqb_eq h.1]
  have h2 := h.2
  intro e
  have : (baseOf a).2 = (baseOf b).2 := by omega
  rw [this] at h2
  simp at h2
theorem wrote_length (ρ : Env) (l : List Value) : ∀ (ws : List (IE × AV)), (wrote ρ l ws).length = l.length
  | [] => rfl
  | p :: ws => by show ((wrote ρ l ws).set _ _).length = _; rw [List.length_set, wrote_length ρ l ws]
theorem getF_ok {P : Program} {ρ : Env} {s : Nat} {n : IE} {fs0 ws : List (IE × AV)} {e : TypeId} {i : TypeInfo} {pre : Array Value} (h : PreIs P ρ s n fs0 ws e i pre) {a : IE} {v : AV} : ∀ {fs : List (IE × AV)}, (∀ p ∈ fs, p ∈ fs0) → getF a fs = some v → pre.toList[(a.ev ρ).toNat]? = some (v.ev ρ)
  | [], _, hv => by cases hv
  | p :: fs, hs, hv => by
    unfold getF at hv
    split at hv
    · rename_i hsame
      cases hv
      rw [sameAt_ev hsame ρ]
      simpa using h.fs p (hs p (List.mem_cons_self ..))
    · exact getF_ok h (fun q hq => hs q (List.mem_cons_of_mem _ hq)) hv
theorem getW_ok {P : Program} {ρ : Env} {s : Nat} {n : IE} {fs ws0 : List (IE × AV)} {e : TypeId} {i : TypeInfo} {pre : Array Value} (h : PreIs P ρ s n fs ws0 e i pre) {a : IE} {v : AV} : ∀ {ws : List (IE × AV)}, (∀ p ∈ ws, p ∈ ws0) → getW a fs ws = some v → (wrote ρ pre.toList ws)[(a.ev ρ).toNat]? = some (v.ev ρ)
  | [], _, hv => getF_ok h (fun _ hp => hp) hv
  | p :: ws, hs, hv => by
    unfold getW at hv
    show ((wrote ρ pre.toList ws).set _ _)[_]? = _
    split at hv
    · rename_i hsame
      cases hv
      rw [sameAt_ev hsame ρ, List.getElem?_set_self (by rw [wrote_length]; simpa using h.ws p (hs p (List.mem_cons_self ..)))]
    · split at hv
      · rename_i hap
        rw [List.getElem?_set_ne (fun e => apartAt_ev hap ρ e.symm)]
        exact getW_ok h (fun q hq => hs q (List.mem_cons_of_mem _ hq)) hv
      · cases hv
theorem getP_ok {P : Program} {ρ : Env} {b : ABlk} {arr : Array Value} (h : b.fits P ρ arr) {a : IE} {v : AV} (hv : b.getP a = some v) : arr[(a.ev ρ).toNat]? = some (v.ev ρ) := by
  cases b with
  | pre lk s n fs ws cs e c =>
    obtain ⟨pre, rest, i, h1, h2, h3⟩ := h
    have h4 := getW_ok h1 (fun _ hp => hp) hv
    rw [← Array.getElem?_toList, h2, List.getElem?_append_left (List.getElem?_eq_some_iff.1 h4).1]
    exact h4
  | _ => cases hv
theorem getP_mem {b : ABlk} {a : IE} {v : AV} (hv : b.getP a = some v) : b.isMem = true ∧ b.isChan = false := by
  cases b <;> first | exact ⟨rfl, rfl⟩ | cases hv
theorem getF_in {U : Nat → Prop} {a : IE} {v : AV} : ∀ {fs : List (IE × AV)}, (∀ p ∈ fs, p.1.In U ∧ p.2.In U) → getF a fs = some v → v.In U
  | [], _, hv => by cases hv
  | p :: fs, hs, hv => by
    unfold getF at hv
    split at hv
    · cases hv; exact (hs p (List.mem_cons_self ..)).2
    · exact getF_in (fun q hq => hs q (List.mem_cons_of_mem _ hq)) hv
theorem getW_in {U : Nat → Prop} {a : IE} {v : AV} {fs : List (IE × AV)} (hf : ∀ p ∈ fs, p.1.In U ∧ p.2.In U) : ∀ {ws : List (IE × AV)}, (∀ p ∈ ws, p.1.In U ∧ p.2.In U) → getW a fs ws = some v → v.In U
  | [], _, hv => getF_in hf hv
  | p :: ws, hs, hv => by
    unfold getW at hv
    split at hv
    · cases hv; exact (hs p (List.mem_cons_self ..)).2
    · split at hv
      · exact getW_in hf (fun q hq => hs q (List.mem_cons_of_mem _ hq)) hv
      · cases hv
theorem getP_in {U : Nat → Prop} {b : ABlk} (hb : b.In U) {a : IE} {v : AV} (hv : b.getP a = some v) : v.In U := by
  cases b with
  | pre lk s n fs ws cs e c => exact getW_in hb.2.1 hb.2.2.1 hv
  | _ => cases hv
theorem setP_ok {P : Program} {ρ : Env} {b b' : ABlk} {arr : Array Value} (h : b.fits P ρ arr) {a : IE} {v : AV} (hv : b.setP a v = some b') : b'.fits P ρ (arr.setIfInBounds (a.ev ρ).toNat (v.ev ρ)) ∧ b'.elem = b.elem ∧ b'.isChan = false ∧ b.isMem = true ∧ (∀ m, ¬ b.lentAt P ρ m) ∧ ∃ u, b.getP a = some u := by
  cases b with
  | pre lk s n fs ws cs e c =>
    unfold ABlk.setP at hv
    dsimp only at hv
    split at hv
    · rename_i u hu
      cases hv
      obtain ⟨pre, rest, i, h1, h2, h3⟩ := h
      have h4 := getW_ok h1 (fun _ hp => hp) hu
      have hlt := (List.getElem?_eq_some_iff.1 h4).1
      refine ⟨⟨pre, rest, i, ⟨h1.val, h1.info, h1.size, h1.fs, fun p hp => ?_⟩, ?_, by simpa using h3⟩, rfl, rfl, rfl, fun m hm => by (cases hm.1), u, hu⟩
      · rcases List.mem_cons.1 hp with rfl | hp
        · rw [wrote_length] at hlt; simpa using hlt
        · exact h1.ws p hp
      · rw [Array.toList_setIfInBounds, h2, List.set_append_left _ _ hlt]
        rfl
    · cases hv
  | _ => cases hv
theorem setP_in {U : Nat → Prop} {b b' : ABlk} (hb : b.In U) {a : IE} {v : AV} (ha : a.In U) (hi : v.In U) (hv : b.setP a v = some b') : b'.In U := by
  cases b with
  | pre lk s n fs ws cs e c =>
    unfold ABlk.setP at hv
    dsimp only at hv
    split at hv
    · cases hv
      exact ⟨hb.1, hb.2.1, fun p hp => (List.mem_cons.1 hp).elim (fun e => e ▸ ⟨ha, hi⟩) (hb.2.2.1 p), hb.2.2.2⟩
    · cases hv
  | _ => cases hv

theorem load0_sound (R : Rel K ρ h w) (G : K.Good) {a : AA} {v : AV} (hl : load0 K.O h a = .ok v) : w.cell? (a.ev ρ) = some (v.ev ρ) ∧ ∀ s, K.Ev ⟨.cell (a.ev ρ), false, s⟩ := by
  have old : ∀ {v : AV}, (match look AA.eqb a K.O.mem with | some v => (Except.ok v : M AV) | none => .error "load an unknown cell") = .ok v → w.cell? (a.ev ρ) = some (v.ev ρ) ∧ ∀ s, K.Ev ⟨.cell (a.ev ρ), false, s⟩ := by
    intro v hv
    split at hv
    · rename_i u hu
      cases hv
      obtain ⟨x, hx, he⟩ := look_some hu
      obtain rfl := AA.eqb_eq he
      exact ⟨(R.mem _ hx).2.1, (R.mem _ hx).2.2⟩
    · cases hv
  obtain ⟨blk, off⟩ := a
  unfold load0 at hl
  dsimp only at hl
  split at hl
  · rename_i i n
    split at hl
    · rename_i b hb
      split at hl
      · rename_i u hu
        cases hl
        obtain ⟨arr, ha, hf⟩ := R.arr hb (isMem_get hu)
        refine ⟨?_, fun s => G.rd _ _ (R.own _ _ hb (notChan_get hu))⟩
        rw [show AA.ev ρ ⟨.dyn i, .lit (.ofNat n)⟩ = ⟨ρ.b i, n, none⟩ from rfl, cell?_of ha]
        exact fits_get hf hu
      · cases hl
    · exact old hl
  · exact old hl

theorem load0_in (I : Ids K U h) {a : AA} {v : AV} (hl : load0 K.O h a = .ok v) : v.In U := by
  have old : ∀ {v : AV}, (match look AA.eqb a K.O.mem with | some v => (Except.ok v : M AV) | none => .error "load an unknown cell") = .ok v → v.In U := by
    intro v hv
    split at hv
    · rename_i u hu
      cases hv
      obtain ⟨x, hx, he⟩ := look_some hu
      exact (I.orc.mem _ hx).2
    · cases hv
  unfold load0 at hl
  dsimp only at hl
  split at hl
  · split at hl
    · rename_i b hb
      split at hl
      · rename_i u hu
        cases hl
        have := I.hp _ _ hb
        have hm := List.mem_of_getElem? hu
        cases b with
        | cells cs e => exact Ins_iff.1 this _ hm
        | lent cs e l => exact Ins_iff.1 this _ hm
        | row cs e c => exact Ins_iff.1 this.1 _ hm
        | map es => cases hm
        | chan => cases hm
        | vmap s n fs ws => cases hm
        | pre lk s n fs ws cs e c => cases hm
      · cases hl
    · exact old hl
  · exact old hl

theorem load1_sound (R : Rel K ρ h w) (G : K.Good) {a : AA} {v : AV} (hl : load1 K.O h a = .ok v) : w.cell? (a.ev ρ) = some (v.ev ρ) ∧ ∀ s, K.Ev ⟨.cell (a.ev ρ), false, s⟩ := by
  unfold load1 at hl
  split at hl
  · rename_i u hu
    cases hl
    exact load0_sound R G hu
  · split at hl
    · rename_i u hu
      cases hl
      obtain ⟨blk, off⟩ := a
      unfold preAt? at hu
      dsimp only at hu
      split at hu
      · rename_i i _
        split at hu
        · rename_i b hb
          obtain ⟨m1, m2⟩ := getP_mem hu
          obtain ⟨arr, ha, hf⟩ := R.arr hb m1
          refine ⟨?_, fun s => G.rd _ _ (R.own _ _ hb m2)⟩
          rw [show AA.ev ρ ⟨.dyn i, off⟩ = ⟨ρ.b i, (off.ev ρ).toNat, none⟩ from rfl, cell?_of ha]
          exact getP_ok hf hu
        · cases hu
      · cases hu
    · cases hl

theorem load1_in (I : Ids K U h) {a : AA} {v : AV} (hl : load1 K.O h a = .ok v) : v.In U := by
  unfold load1 at hl
  split at hl
  · rename_i u hu
    cases hl
    exact load0_in I hu
  · split at hl
    · rename_i u hu
      cases hl
      unfold preAt? at hu
      split at hu
      · split at hu
        · rename_i b hb
          exact getP_in (I.hp _ _ hb) hu
        · cases hu
      · cases hu
    · cases hl

theorem addN_ev (ρ : Env) (a : IE) (n : Nat) : ((addN a n).ev ρ).toNat = (a.ev ρ).toNat + n := by
  unfold addN
  split
  · simp [IE.ev]; omega
  · split
    · rename_i h; subst h; simp
    · simp only [IE.ev]; simp; omega
theorem addN_in {a : IE} (n : Nat) (hi : a.In U) : (addN a n).In U := by
  unfold addN
  split
  · trivial
  · split
    · exact hi
    · exact ⟨hi, trivial⟩
theorem AA.add_ev (ρ : Env) (a : AA) (n : Nat) : (a.add n).ev ρ = (a.ev ρ).add n := by
  simp only [AA.ev, AA.add, Addr.add, addN_ev]
  split
  · rename_i h; subst h; simp
  · rfl
theorem AA.add_in {a : AA} (n : Nat) (hi : a.In U) : (a.add n).In U := ⟨hi.1, addN_in n hi.2⟩

theorem Addr.add_block (a : Addr) (n : Nat) : (a.add n).block = a.block := by unfold Addr.add; split <;> rfl

theorem loadN_sound (R : Rel K ρ h w) (G : K.Good) {E : Value → World → Prop} {a : AA} : ∀ {n j : Nat} {l : List AV} {acc : Array Value}, loadN K.O h a n j = .ok l →
    ∀ {Q : Array Value → World → Prop}, Q (acc ++ (AV.evs ρ l).toArray) w → wq K.P K.Ev E (loadCellsFrom (a.ev ρ) j n acc) Q w := by
  intro n
  induction n with
  | zero => intro j l acc hl Q hq; simp [loadN] at hl; subst hl; simpa [loadCellsFrom, AV.evs] using hq
  | succ n ih =>
    intro j l acc hl Q hq
    simp only [loadN] at hl
    split at hl
    · rename_i v hv
      split at hl
      · rename_i l' hl'
        cases hl
        obtain ⟨hc, he⟩ := load1_sound R G hv
        rw [AA.add_ev] at hc he
        simp only [loadCellsFrom, wq_bind]
        rw [wq_load]
        refine ⟨_, hc, he _, ih hl' ?_⟩
        simpa [AV.evs] using hq
      · cases hl
    · cases hl

theorem loadN_in (I : Ids K U h) {a : AA} : ∀ {n j : Nat} {l : List AV}, loadN K.O h a n j = .ok l → AV.Ins U l := by
  intro n
  induction n with
  | zero => intro j l hl; simp [loadN] at hl; subst hl; trivial
  | succ n ih =>
    intro j l hl
    simp only [loadN] at hl
    split at hl
    · rename_i v hv
      split at hl
      · rename_i l' hl'
        cases hl
        exact ⟨load1_in I hv, ih hl'⟩
      · cases hl
    · cases hl

theorem loadN_length {O : Orc} {a : AA} : ∀ {n j : Nat} {l : List AV}, loadN O h a n j = .ok l → l.length = n := by
  intro n
  induction n with
  | zero => intro j l hl; simp [loadN] at hl; subst hl; rfl
  | succ n ih =>
    intro j l hl
    simp only [loadN] at hl
    split at hl
    · split at hl
      · rename_i l' hl'
        cases hl
        simp [ih hl']
      · cases hl
    · cases hl

/-! #### Stores -/
theorem heap_setCell (w : World) (a : Addr) (v : Value) (n : Nat) : (w.setCell a v).heap[n]? = if n = a.block then (w.heap[n]?).map (fun
      | .cells c elem frozen => .cells (if a.spot.isSome then c else c.setIfInBounds a.off v) elem frozen
      | o => o) else w.heap[n]? := by
  simp only [World.setCell, Array.getElem?_modify]
  by_cases e : a.block = n
  · subst e; rw [if_pos rfl, if_pos rfl]; rfl
  · rw [if_neg e, if_neg (fun x => e x.symm)]
theorem size_setCell (w : World) (a : Addr) (v : Value) : (w.setCell a v).heap.size = w.heap.size := by simp [World.setCell]

theorem oneCell_ev {v : AV} (ho : v.oneCell? = true) (ρ : Env) : (v.ev ρ).oneCell' = true := by
  cases v <;> simp_all [AV.oneCell?, AV.ev, Value.oneCell']

theorem store0_sound (R : Rel K ρ h w) (G : K.Good) {a : AA} {v : AV} {h' : AH} (hs : store0 h a v = .ok h') :
    (v.ev ρ).oneCell' = true ∧ (∃ u, w.cell? (a.ev ρ) = some u) ∧ w.frozen? (a.ev ρ) = false ∧ (∀ s, K.Ev ⟨.cell (a.ev ρ), true, s⟩) ∧ Rel K ρ h' (w.setCell (a.ev ρ) (v.ev ρ)) ∧ Keeps K.own w (w.setCell (a.ev ρ) (v.ev ρ)) ∧ h'.nb = h.nb ∧ h'.lim = h.lim := by
  obtain ⟨blk, off⟩ := a
  unfold store0 at hs
  dsimp only at hs
  split at hs
  · rename_i i n
    split at hs
    · rename_i b hb
      split at hs
      · rename_i hc
        cases hs
        simp only [Bool.and_eq_true, decide_eq_true_eq, Bool.not_eq_true'] at hc
        obtain ⟨⟨hlt, ho⟩, hnl⟩ := hc
        have hns : ¬ K.still (ρ.b i) n := fun x => by
          have := lentAt_lt hlt (R.lent _ _ hb n x)
          rw [this] at hnl; cases hnl
        obtain ⟨arr, ha, hf⟩ := R.arr hb (isMem_lt hlt)
        have hown := R.own _ _ hb (notChan_lt hlt)
        have hev : AA.ev ρ ⟨.dyn i, .lit (.ofNat n)⟩ = ⟨ρ.b i, n, none⟩ := rfl
        rw [hev]
        obtain ⟨u, hu⟩ : ∃ u, b.cs[n]? = some u := ⟨_, List.getElem?_eq_getElem hlt⟩
        refine ⟨oneCell_ev ho ρ, ⟨_, (cell?_of ha).trans (fits_get hf hu)⟩, frozen?_of ha, fun s => G.wr _ _ hown hns, ?_, ?_, rfl, rfl⟩
        · refine ⟨fun j c hj => ?_, fun j c hj => ?_, fun j k c d hj hk e => ?_, R.bs, R.is, fun p hp => ?_, fun m hm => R.room m (by rw [size_setCell] at hm; exact hm), fun j c hj m hm => ?_, fun b m hm => by rw [size_setCell]; exact R.low b m hm⟩
          · rw [findB_setB] at hj
            split at hj
            · rename_i e; subst e
              rw [hb] at hj; cases hj
              refine ⟨.cells (arr.setIfInBounds n (v.ev ρ)) b.elem (0, 0), ?_, .inl ⟨_, by rw [put_elem], fits_set hf hlt⟩⟩
              rw [heap_setCell, if_pos rfl, ha]; rfl
            · rename_i e
              obtain ⟨arr', ha', hf'⟩ := R.blk _ _ hj
              refine ⟨arr', ?_, hf'⟩
              rw [heap_setCell, if_neg (fun x => e (R.inj _ _ _ _ hj hb x)), ha']
          · rw [findB_setB] at hj
            split at hj
            · rename_i e; subst e; exact .inl hown
            · exact R.own' _ _ hj
          · rw [findB_setB] at hj hk
            split at hj <;> split at hk
            · rename_i e1 e2; exact e1.trans e2.symm
            · rename_i e1 e2; subst e1; exact R.inj _ _ _ _ hb hk e
            · rename_i e1 e2; subst e2; exact R.inj _ _ _ _ hj hb e
            · exact R.inj _ _ _ _ hj hk e
          · obtain ⟨m1, m2, m3⟩ := R.mem p hp
            refine ⟨m1, ?_, m3⟩
            have hne : (p.1.ev ρ).block ≠ ρ.b i := fun x => m1 (x ▸ hown)
            simp only [World.cell?] at m2 ⊢
            rw [heap_setCell, if_neg hne]; exact m2
          · rw [findB_setB] at hj
            split at hj
            · rename_i e; subst e
              rw [hb] at hj; cases hj
              exact (lentAt_put hlt _ _ _ _).2 (R.lent _ _ hb m hm)
            · exact R.lent _ _ hj m hm
        · refine ⟨fun m hm => ?_, by rw [size_setCell]; exact Nat.le_refl _, rfl, rfl, rfl⟩
          rw [heap_setCell, if_neg (fun x => hm (by rw [x]; exact hown))]
      · cases hs
    · cases hs
  · cases hs

theorem store0_ids (I : Ids K U h) {a : AA} {v : AV} {h' : AH} (hs : store0 h a v = .ok h') (hv : v.In U) : Ids K U h' := by
  obtain ⟨blk, off⟩ := a
  unfold store0 at hs
  dsimp only at hs
  split at hs
  · split at hs
    · rename_i b hb
      split at hs
      · cases hs
        refine ⟨fun j c hj => ?_, fun j hj => I.keys j (by rw [keys_setB] at hj; exact hj), by rw [keys_setB]; exact I.nodup, I.fresh, I.orc⟩
        rw [findB_setB] at hj
        split at hj
        · rw [hb] at hj; cases hj
          have hbi := I.hp _ _ hb
          have hset : ∀ (l : List AV) (n : Nat), AV.Ins U l → AV.Ins U (l.set n v) := fun l n hl => Ins_iff.2 fun a ha => by
            rcases List.mem_or_eq_of_mem_set ha with h' | rfl
            · exact Ins_iff.1 hl _ h'
            · exact hv
          cases b with
          | cells cs e => exact hset _ _ hbi
          | lent cs e l => exact hset _ _ hbi
          | row cs e c => exact ⟨hset _ _ hbi.1, hbi.2⟩
          | map es => exact hbi
          | chan => exact hbi
          | vmap s n fs ws => exact hbi
          | pre lk s n fs ws cs e c => exact hbi
        · exact I.hp _ _ hj
      · cases hs
    · cases hs
  · cases hs

theorem preSet_sound (R : Rel K ρ h w) (G : K.Good) {a : AA} {v : AV} {h' : AH} (hs : preSet? h a v = some h') :
    (v.ev ρ).oneCell' = true ∧ (∃ u, w.cell? (a.ev ρ) = some u) ∧ w.frozen? (a.ev ρ) = false ∧ (∀ s, K.Ev ⟨.cell (a.ev ρ), true, s⟩) ∧ Rel K ρ h' (w.setCell (a.ev ρ) (v.ev ρ)) ∧ Keeps K.own w (w.setCell (a.ev ρ) (v.ev ρ)) ∧ h'.nb = h.nb ∧ h'.lim = h.lim := by
  obtain ⟨blk, off⟩ := a
  unfold preSet? at hs
  dsimp only at hs
  split at hs
  · rename_i i
    split at hs
    · rename_i b hb
      split at hs
      · rename_i b' hb'
        split at hs
        · rename_i ho
          cases hs
          have hmem : b.isMem = true := by cases b <;> first | rfl | cases hb'
          obtain ⟨arr, ha, hf⟩ := R.arr hb hmem
          obtain ⟨f1, f2, f3, f4, f5, u, hu⟩ := setP_ok hf hb'
          have hown := R.own _ _ hb (getP_mem hu).2
          have hns : ¬ K.still (ρ.b i) (off.ev ρ).toNat := fun x => by
            exact f5 _ (R.lent _ _ hb _ x)
          have hev : AA.ev ρ ⟨.dyn i, off⟩ = ⟨ρ.b i, (off.ev ρ).toNat, none⟩ := rfl
          rw [hev]
          have hcell := getP_ok hf hu
          generalize (off.ev ρ).toNat = n at *
          refine ⟨oneCell_ev ho ρ, ⟨_, (cell?_of ha).trans hcell⟩, frozen?_of ha, fun s => G.wr _ _ hown hns, ?_, ?_, rfl, rfl⟩
          · refine ⟨fun j c hj => ?_, fun j c hj => ?_, fun j k c d hj hk e => ?_, R.bs, R.is, fun p hp => ?_, fun m hm => R.room m (by rw [size_setCell] at hm; exact hm), fun j c hj m hm => ?_, fun b m hm => by rw [size_setCell]; exact R.low b m hm⟩
            · rw [findB_setB] at hj
              split at hj
              · rename_i e; subst e
                rw [hb] at hj; cases hj
                refine ⟨.cells (arr.setIfInBounds n (v.ev ρ)) b'.elem (0, 0), ?_, .inl ⟨_, rfl, f1⟩⟩
                rw [heap_setCell, if_pos rfl, ha, f2]; rfl
              · rename_i e
                obtain ⟨arr', ha', hf'⟩ := R.blk _ _ hj
                refine ⟨arr', ?_, hf'⟩
                rw [heap_setCell, if_neg (fun x => e (R.inj _ _ _ _ hj hb x)), ha']
            · rw [findB_setB] at hj
              split at hj
              · rename_i e; subst e; exact .inl hown
              · exact R.own' _ _ hj
            · rw [findB_setB] at hj hk
              split at hj <;> split at hk
              · rename_i e1 e2; exact e1.trans e2.symm
              · rename_i e1 e2; subst e1; exact R.inj _ _ _ _ hb hk e
              · rename_i e1 e2; subst e2; exact R.inj _ _ _ _ hj hb e
              · exact R.inj _ _ _ _ hj hk e
            · obtain ⟨m1, m2, m3⟩ := R.mem p hp
              refine ⟨m1, ?_, m3⟩
              have hne : (p.1.ev ρ).block ≠ ρ.b i := fun x => m1 (x ▸ hown)
              simp only [World.cell?] at m2 ⊢
              rw [heap_setCell, if_neg hne]; exact m2
            · rw [findB_setB] at hj
              split at hj
              · rename_i e; subst e
                rw [hb] at hj; cases hj
                exact absurd (R.lent _ _ hb m hm) (f5 m)
              · exact R.lent _ _ hj m hm
          · refine ⟨fun m hm => ?_, by rw [size_setCell]; exact Nat.le_refl _, rfl, rfl, rfl⟩
            rw [heap_setCell, if_neg (fun x => hm (by rw [x]; exact hown))]
        · cases hs
      · cases hs
    · cases hs
  · cases hs

theorem store1_sound (R : Rel K ρ h w) (G : K.Good) {a : AA} {v : AV} {h' : AH} (hs : store1 h a v = .ok h') :
    (v.ev ρ).oneCell' = true ∧ (∃ u, w.cell? (a.ev ρ) = some u) ∧ w.frozen? (a.ev ρ) = false ∧ (∀ s, K.Ev ⟨.cell (a.ev ρ), true, s⟩) ∧ Rel K ρ h' (w.setCell (a.ev ρ) (v.ev ρ)) ∧ Keeps K.own w (w.setCell (a.ev ρ) (v.ev ρ)) ∧ h'.nb = h.nb ∧ h'.lim = h.lim := by
  unfold store1 at hs
  split at hs
  · rename_i h1 hh
    cases hs
    exact store0_sound R G hh
  · split at hs
    · rename_i h1 hh
      cases hs
      exact preSet_sound R G hh
    · cases hs

theorem store1_ids (I : Ids K U h) {a : AA} {v : AV} {h' : AH} (hs : store1 h a v = .ok h') (ha : a.In U) (hv : v.In U) : Ids K U h' := by
  unfold store1 at hs
  split at hs
  · rename_i h1 hh
    cases hs
    exact store0_ids I hh hv
  · split at hs
    · rename_i h1 hh
      cases hs
      unfold preSet? at hh
      split at hh
      · rename_i i hi
        split at hh
        · rename_i b hb
          split at hh
          · rename_i b' hb'
            split at hh
            · cases hh
              refine ⟨fun j c hj => ?_, fun j hj => I.keys j (by rw [keys_setB] at hj; exact hj), by rw [keys_setB]; exact I.nodup, I.fresh, I.orc⟩
              rw [findB_setB] at hj
              split at hj
              · rw [hb] at hj; cases hj
                exact setP_in (I.hp _ _ hb) ha.2 hv hb'
              · exact I.hp _ _ hj
            · cases hh
          · cases hh
        · cases hh
      · cases hh
    · cases hs

theorem storeN_sound (G : K.Good) {E : Value → World → Prop} {a : AA} : ∀ {l : List AV} {j : Nat} {h h' : AH} {w : World}, Rel K ρ h w → storeN h a l j = .ok h' →
    ∀ {Q : Unit → World → Prop}, (∀ w', Rel K ρ h' w' → Keeps K.own w w' → h'.nb = h.nb → h'.lim = h.lim → Q () w') → wq K.P K.Ev E (storeCells (a.ev ρ) (AV.evs ρ l) j) Q w := by
  intro l
  induction l with
  | nil => intro j h h' w R hs Q hq; simp [storeN] at hs; subst hs; exact hq w R (Keeps.refl _ _) rfl rfl
  | cons v l ih =>
    intro j h h' w R hs Q hq
    simp only [storeN] at hs
    split at hs
    · rename_i h1 hh1
      obtain ⟨s1, s2, s3, s4, s5, s6, s7, s8⟩ := store1_sound R G hh1
      rw [AA.add_ev] at s2 s3 s4 s5 s6
      simp only [AV.evs, storeCells, wq_bind]
      rw [wq_store]
      exact ⟨s1, s2, s3, s4 _, ih s5 hs fun w' r1 r2 r3 r4 => hq w' r1 (s6.trans r2) (r3.trans s7) (r4.trans s8)⟩
    · cases hs

theorem storeN_ids {a : AA} (ha : a.In U) : ∀ {l : List AV} {j : Nat} {h h' : AH}, Ids K U h → storeN h a l j = .ok h' → AV.Ins U l → Ids K U h' := by
  intro l
  induction l with
  | nil => intro j h h' I hs _; simp [storeN] at hs; subst hs; exact I
  | cons v l ih =>
    intro j h h' I hs hv
    simp only [storeN] at hs
    split at hs
    · rename_i h1 hh1
      exact ih (store1_ids I hh1 (AA.add_in j ha) hv.1) hs hv.2
    · cases hs

end
end Go.Proofs.YtmnahfonnljobaaGreatDoor.SX
/-
  New blocks.
-/
set_option linter.unusedSectionVars false
namespace Go.Proofs.YtmnahfonnljobaaGreatDoor.SX

def Env.upd (ρ : Env) (n m : Nat) (c : Int) : Env := { ρ with b := fun x => if x = n then m else ρ.b x, i := fun x => if x = n then c else ρ.i x }

/-- The numbers in use, and those of a range. -/
def plus (U : Nat → Prop) (a b : Nat) : Nat → Prop := fun n => U n ∨ (a ≤ n ∧ n < b)

theorem plus_sub {U : Nat → Prop} {a b : Nat} : ∀ n, U n → plus U a b n := fun _ h => .inl h

theorem agree_upd {U : Nat → Prop} {ρ : Env} {n m : Nat} {c : Int} (h : ¬ U n) : Agree U ρ (ρ.upd n m c) :=
  ⟨rfl, rfl, rfl, fun x hx => by
    have : x ≠ n := fun e => h (e ▸ hx)
    simp [Env.upd, this], fun x hx => by
    have : x ≠ n := fun e => h (e ▸ hx)
    simp [Env.upd, this]⟩

section
variable {K : Ctx} {ρ : Env} {h : AH} {w : World} {U : Nat → Prop}

theorem Rel.agree (R : Rel K ρ h w) (I : Ids K U h) {ρ' : Env} (A : Agree U ρ ρ') : Rel K ρ' h w := by
  have hk : ∀ i b, findB i h.hp = some b → ρ'.b i = ρ.b i := fun i b hb => A.b i (I.keys i (findB_key hb))
  refine ⟨fun i b hb => ?_, fun i b hb => by rw [hk i b hb]; exact R.own' i b hb, fun i j b c hb hc e => R.inj i j b c hb hc (by rw [hk i b hb, hk j c hc] at e; exact e), fun p hp => ?_, fun p hp => ?_, fun p hp => ?_, R.room, fun i b hb n hs => (lentAt_agree A (I.hp i b hb)).2 (R.lent i b hb n (by rw [hk i b hb] at hs; exact hs)), R.low⟩
  · obtain ⟨arr, ha, hf⟩ := R.blk i b hb
    exact ⟨arr, by rw [hk i b hb]; exact ha, is_agree A (I.hp i b hb) hf⟩
  · rw [BE.ev_agree A (I.orc.bs p hp)]; exact R.bs p hp
  · rw [IE.ev_agree A (I.orc.is p hp).1, IE.ev_agree A (I.orc.is p hp).2]; exact R.is p hp
  · rw [AA.ev_agree A (I.orc.mem p hp).1, AV.ev_agree A _ (I.orc.mem p hp).2]; exact R.mem p hp

/-- A block more. -/
theorem Rel.insL (R : Rel K ρ h w) (I : Ids K U h) (hlt : h.nb < h.lim) {m : Nat} {c : Int} {b : ABlk} {o : Obj} (hm : w.heap[m]? = some o) (hown : K.own m)
    (hne : ∀ j x, findB j h.hp = some x → ρ.b j ≠ m) (hst : ∀ n, K.still m n → b.lentAt K.P (ρ.upd h.nb m c) n) (hf : b.is K.P (ρ.upd h.nb m c) o) : Rel K (ρ.upd h.nb m c) ⟨insB h.nb b h.hp, h.nb + 1, h.lim⟩ w := by
  have hnu : ¬ U h.nb := I.fresh _ (Nat.le_refl _) hlt
  have hnk : h.nb ∉ Go.Proofs.YtmnahfonnljobaaGreatDoor.SX.keys h.hp := fun hk => hnu (I.keys _ hk)
  have R' := R.agree I (agree_upd (m := m) (c := c) hnu)
  have hb0 : (ρ.upd h.nb m c).b h.nb = m := by simp [Env.upd]
  have hbj : ∀ j x, findB j h.hp = some x → (ρ.upd h.nb m c).b j = ρ.b j := fun j x hx => (agree_upd (m := m) (c := c) hnu).b j (I.keys j (findB_key hx))
  refine ⟨fun i x hx => ?_, fun i x hx => ?_, fun i j x y hx hy e => ?_, R'.bs, R'.is, R'.mem, R'.room, fun i x hx n hs => ?_, R'.low⟩
  · rw [findB_insB _ _ _ _ hnk] at hx
    split at hx
    · rename_i e; subst e; cases hx; rw [hb0]; exact ⟨o, hm, hf⟩
    · exact R'.blk i x hx
  · rw [findB_insB _ _ _ _ hnk] at hx
    split at hx
    · rename_i e; subst e; cases hx; rw [hb0]; exact .inl hown
    · exact R'.own' i x hx
  · rw [findB_insB _ _ _ _ hnk] at hx hy
    split at hx <;> split at hy
    · rename_i e1 e2; exact e1.trans e2.symm
    · rename_i e1 e2; subst e1; rw [hb0, hbj j y hy] at e; exact absurd e.symm (hne j y hy)
    · rename_i e1 e2; subst e2; rw [hb0, hbj i x hx] at e; exact absurd e (hne i x hx)
    · exact R'.inj i j x y hx hy e
  · rw [findB_insB _ _ _ _ hnk] at hx
    split at hx
    · rename_i e; subst e; cases hx; rw [hb0] at hs; exact hst n hs
    · exact R'.lent i x hx n hs

theorem Rel.insO (R : Rel K ρ h w) (I : Ids K U h) (hlt : h.nb < h.lim) {m : Nat} {c : Int} {b : ABlk} {o : Obj} (hm : w.heap[m]? = some o) (hown : K.own m)
    (hne : ∀ j x, findB j h.hp = some x → ρ.b j ≠ m) (hst : ∀ n, ¬ K.still m n) (hf : b.is K.P (ρ.upd h.nb m c) o) : Rel K (ρ.upd h.nb m c) ⟨insB h.nb b h.hp, h.nb + 1, h.lim⟩ w :=
  R.insL I hlt hm hown hne (fun n hs => absurd hs (hst n)) hf

theorem Rel.ins (R : Rel K ρ h w) (I : Ids K U h) (hlt : h.nb < h.lim) {m : Nat} {c : Int} {b : ABlk} {arr : Array Value} (hm : w.heap[m]? = some (.cells arr b.elem (0, 0))) (hown : K.own m)
    (hne : ∀ j x, findB j h.hp = some x → ρ.b j ≠ m) (hst : ∀ n, ¬ K.still m n) (hf : b.fits K.P (ρ.upd h.nb m c) arr) : Rel K (ρ.upd h.nb m c) ⟨insB h.nb b h.hp, h.nb + 1, h.lim⟩ w :=
  R.insO I hlt hm hown hne hst (.inl ⟨arr, rfl, hf⟩)

theorem Ids.ins (I : Ids K U h) (hlt : h.nb < h.lim) {b : ABlk} (hb : b.In (plus U h.nb (h.nb + 1))) : Ids K (plus U h.nb (h.nb + 1)) ⟨insB h.nb b h.hp, h.nb + 1, h.lim⟩ := by
  have hnu : ¬ U h.nb := I.fresh _ (Nat.le_refl _) hlt
  have hnk : h.nb ∉ Go.Proofs.YtmnahfonnljobaaGreatDoor.SX.keys h.hp := fun hk => hnu (I.keys _ hk)
  refine ⟨fun i x hx => ?_, fun i hi => ?_, ?_, fun n h1 h2 => ?_, I.orc.mono plus_sub⟩
  · rw [findB_insB _ _ _ _ hnk] at hx
    split at hx
    · cases hx; exact hb
    · exact ABlk.In.mono plus_sub (I.hp i x hx)
  · have := (keys_insB h.nb b h.hp).mem_iff.1 hi
    rcases List.mem_cons.1 this with rfl | hm
    · exact .inr ⟨Nat.le_refl _, Nat.lt_succ_self _⟩
    · exact .inl (I.keys i hm)
  · exact (keys_insB h.nb b h.hp).nodup_iff.2 (List.nodup_cons.2 ⟨hnk, I.nodup⟩)
  · rintro (hu | ⟨_, h3⟩)
    · exact I.fresh n (by simp only at h1; omega) h2 hu
    · simp only at h1; omega

/-- The new block in the world. -/
theorem Rel.push (R : Rel K ρ h w) (o : Obj) : Rel K ρ h { w with heap := w.heap.push o } ∧ Keeps K.own w { w with heap := w.heap.push o } := by
  have hget : ∀ n, n < w.heap.size → (w.heap.push o)[n]? = w.heap[n]? := fun n hn => by rw [Array.getElem?_push_lt hn, Array.getElem?_eq_getElem hn]
  have hsz : (w.heap.push o).size = w.heap.size + 1 := by simp
  refine ⟨⟨fun i b hb => ?_, R.own', R.inj, R.bs, R.is, fun p hp => ?_, fun n hn => R.room n (by simp only [hsz] at hn; omega), R.lent, fun b n hs => by have := R.low b n hs; simp only [hsz]; omega⟩, ⟨fun n hn => ?_, by simp only [hsz]; omega, rfl, rfl, rfl⟩⟩
  · obtain ⟨arr, ha, hf⟩ := R.blk i b hb
    exact ⟨arr, by show (w.heap.push o)[_]? = _; rw [hget _ (heap_lt ha)]; exact ha, hf⟩
  · obtain ⟨m1, m2, m3⟩ := R.mem p hp
    refine ⟨m1, ?_, m3⟩
    have hlt : (p.1.ev ρ).block < w.heap.size := by
      rcases Nat.lt_or_ge (p.1.ev ρ).block w.heap.size with h' | h'
      · exact h'
      · simp [World.cell?, Array.getElem?_eq_none h'] at m2
    simp only [World.cell?] at m2 ⊢
    rw [hget _ hlt]; exact m2
  · show (w.heap.push o)[n]? = _
    rcases Nat.lt_or_ge n w.heap.size with h' | h'
    · exact hget n h'
    · exact absurd (R.room n h') hn

/-- A new block, in the world and in the list. -/
theorem Rel.new (R : Rel K ρ h w) (I : Ids K U h) (hlt : h.nb < h.lim) {b : ABlk} {arr : Array Value} {c : Int} (hf : b.fits K.P (ρ.upd h.nb w.heap.size c) arr) :
    Rel K (ρ.upd h.nb w.heap.size c) ⟨insB h.nb b h.hp, h.nb + 1, h.lim⟩ { w with heap := w.heap.push (.cells arr b.elem (0, 0)) } := by
  obtain ⟨R', _⟩ := R.push (.cells arr b.elem (0, 0))
  refine R'.ins I hlt (by simp) (R.room _ (Nat.le_refl _)) (fun j x hx e => ?_) (fun n hs => by have := R.low _ n hs; omega) hf
  obtain ⟨arr', ha, _⟩ := R.blk j x hx
  have := heap_lt ha
  omega

theorem Rel.drop (R : Rel K ρ h w) (I : Ids K U h) (i : Nat) : Rel K ρ { h with hp := dropB i h.hp } w := by
  have hs : ∀ j b, findB j (dropB i h.hp) = some b → findB j h.hp = some b := fun j b hb => by
    rw [findB_dropB _ _ _ I.nodup] at hb
    split at hb
    · cases hb
    · exact hb
  exact ⟨fun j b hb => R.blk j b (hs j b hb), fun j b hb => R.own' j b (hs j b hb), fun j k b c hb hc e => R.inj j k b c (hs j b hb) (hs k c hc) e, R.bs, R.is, R.mem, R.room, fun j b hb => R.lent j b (hs j b hb), R.low⟩

theorem Ids.drop (I : Ids K U h) (i : Nat) : Ids K U { h with hp := dropB i h.hp } :=
  ⟨fun j b hb => I.hp j b (by
    rw [findB_dropB _ _ _ I.nodup] at hb
    split at hb
    · cases hb
    · exact hb), fun j hj => I.keys j ((keys_dropB_sub i h.hp).mem hj), (keys_dropB_sub i h.hp).nodup I.nodup, I.fresh, I.orc⟩

/-- What an operation leaves: a heap that has grown by numbers out of its range. -/
structure Grows (K : Ctx) (U : Nat → Prop) (h h' : AH) : Prop where
  nb : h.nb ≤ h'.nb
  lim : h'.lim = h.lim
  ids : Ids K (plus U h.nb h'.nb) h'

theorem plus_none {U : Nat → Prop} {a : Nat} : ∀ n, plus U a a n → U n := fun n h => h.elim id fun h => by omega

theorem Ids.congr {U U' : Nat → Prop} (I : Ids K U h) (h1 : ∀ n, U n ↔ U' n) : Ids K U' h :=
  ⟨fun i b hb => ABlk.In.mono (fun n => (h1 n).1) (I.hp i b hb), fun i hi => (h1 i).1 (I.keys i hi), I.nodup, fun n a b c => I.fresh n a b ((h1 n).2 c), I.orc.mono fun n => (h1 n).1⟩

theorem Grows.refl (I : Ids K U h) : Grows K U h h := ⟨Nat.le_refl _, rfl, I.congr fun n => ⟨.inl, plus_none n⟩⟩

theorem plus_plus {U : Nat → Prop} {a b c : Nat} (h1 : a ≤ b) (h2 : b ≤ c) (n : Nat) : plus (plus U a b) b c n ↔ plus U a c n := by
  unfold plus
  constructor
  · rintro ((h | h) | h)
    · exact .inl h
    · exact .inr ⟨h.1, by omega⟩
    · exact .inr ⟨by omega, h.2⟩
  · rintro (h | h)
    · exact .inl (.inl h)
    · by_cases e : n < b
      · exact .inl (.inr ⟨h.1, e⟩)
      · exact .inr ⟨by omega, h.2⟩

theorem Grows.trans {h' h'' : AH} (g : Grows K U h h') (g' : Grows K (plus U h.nb h'.nb) h' h'') : Grows K U h h'' :=
  ⟨Nat.le_trans g.nb g'.nb, g'.lim.trans g.lim, g'.ids.congr fun n => plus_plus g.nb g'.nb n⟩

/-- What is left of the world behind it: with some assignment of the new numbers. -/
def After (K : Ctx) (U : Nat → Prop) (ρ : Env) (w : World) (h' : AH) (Q : Env → Prop) (w' : World) : Prop :=
  ∃ ρ', Agree U ρ ρ' ∧ Rel K ρ' h' w' ∧ Keeps K.own w w' ∧ Q ρ'

theorem After.same (R : Rel K ρ h w) {Q : Env → Prop} (hq : Q ρ) : After K U ρ w h Q w := ⟨ρ, Agree.refl _ _, R, Keeps.refl _ _, hq⟩

theorem alloc?_sound (R : Rel K ρ h w) (I : Ids K U h) {b : ABlk} {v : AV} {h' : AH} (ha : alloc? h b = .ok (v, h')) (hb : b.In U) :
    (∃ a, v = .ptr (some a)) ∧ v.In (plus U h.nb h'.nb) ∧ Grows K U h h' ∧ ∀ arr, b.fits K.P ρ arr →
      After K U ρ w h' (fun ρ' => v.ev ρ' = .pointer (some ⟨w.heap.size, 0, none⟩)) { w with heap := w.heap.push (.cells arr b.elem (0, 0)) } := by
  obtain ⟨hp, nb, lim⟩ := h
  simp only [alloc?] at ha
  split at ha
  · rename_i hlt
    cases ha
    have hnu : ¬ U nb := I.fresh _ (Nat.le_refl _) hlt
    refine ⟨⟨_, rfl⟩, ⟨.inr ⟨Nat.le_refl _, Nat.lt_succ_self _⟩, trivial⟩, ⟨Nat.le_succ _, rfl, I.ins hlt (ABlk.In.mono plus_sub hb)⟩, fun arr hf => ?_⟩
    refine ⟨ρ.upd nb w.heap.size 0, agree_upd hnu, R.new I hlt (fits_agree (agree_upd hnu) hb hf), (R.push _).2, ?_⟩
    simp [AV.ev, AA.ev, BR.ev, IE.ev, Env.upd]
  · cases ha

theorem allocSlice?_sound (R : Rel K ρ h w) (I : Ids K U h) {b : ABlk} {l c : IE} {v : AV} {h' : AH} (ha : allocSlice? h b l c = .ok (v, h')) (hb : b.In U) (hl : l.In U) (hc : c.In U) :
    v.In (plus U h.nb h'.nb) ∧ Grows K U h h' ∧ ∀ arr, b.fits K.P ρ arr →
      After K U ρ w h' (fun ρ' => v.ev ρ' = .slice (some ⟨w.heap.size, 0, none⟩) (l.ev ρ).toNat (c.ev ρ).toNat) { w with heap := w.heap.push (.cells arr b.elem (0, 0)) } := by
  obtain ⟨hp, nb, lim⟩ := h
  simp only [allocSlice?] at ha
  split at ha
  · rename_i hlt
    cases ha
    have hnu : ¬ U nb := I.fresh _ (Nat.le_refl _) hlt
    refine ⟨⟨⟨.inr ⟨Nat.le_refl _, Nat.lt_succ_self _⟩, trivial⟩, IE.In.mono plus_sub hl, IE.In.mono plus_sub hc⟩, ⟨Nat.le_succ _, rfl, I.ins hlt (ABlk.In.mono plus_sub hb)⟩, fun arr hf => ?_⟩
    refine ⟨ρ.upd nb w.heap.size 0, agree_upd hnu, R.new I hlt (fits_agree (agree_upd hnu) hb hf), (R.push _).2, ?_⟩
    simp only [AV.ev, IE.ev_agree (agree_upd hnu) hl, IE.ev_agree (agree_upd hnu) hc]
    simp [AA.ev, BR.ev, IE.ev, Env.upd]
  · cases ha

end
end Go.Proofs.YtmnahfonnljobaaGreatDoor.SX

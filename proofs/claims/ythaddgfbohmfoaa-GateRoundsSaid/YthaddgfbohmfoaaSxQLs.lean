/-
  GateRounds' plain law: who goes next, round by round. Conditions: none.
-/
import Derived.Test.YthaddgfbohmfoaaSxQD
set_option linter.unusedVariables false
set_option linter.unusedSimpArgs false
namespace Go.Proofs.Ythaddgfbohmfoaa
open Go.Proofs.Ythaddgfbohmfoaa.SX
open Go.ConcN (upd upd_ne upd_same)

theorem filter_split {P : Nat → Bool} {q n : Nat} (hq : q < n) (hP : P q = true) : ∃ rest, (List.range n).filter P = (List.range q).filter P ++ q :: rest := by
  obtain ⟨m, rfl⟩ : ∃ m, n = q + (m + 1) := ⟨n - q - 1, by omega⟩
  rw [List.range_add, List.filter_append, List.range_succ_eq_map]
  simp only [List.map_cons, Nat.add_zero]
  rw [List.filter_cons_of_pos hP]
  exact ⟨_, rfl⟩
theorem filter_gap {P : Nat → Bool} {p n : Nat} (hp : p ≤ n) (h : ∀ j, p ≤ j → j < n → P j = false) : (List.range n).filter P = (List.range p).filter P := by
  obtain ⟨m, rfl⟩ : ∃ m, n = p + m := ⟨n - p, by omega⟩
  rw [List.range_add, List.filter_append]
  have : ((List.range m).map (p + ·)).filter P = [] := by
    rw [List.filter_eq_nil_iff]
    intro a ha
    obtain ⟨x, hx, rfl⟩ := List.mem_map.1 ha
    have := List.mem_range.1 hx
    rw [h _ (by omega) (by omega)]
    simp
  rw [this, List.append_nil]
theorem filter_one {P : Nat → Bool} {q : Nat} (hP : P q = true) : (List.range (q + 1)).filter P = (List.range q).filter P ++ [q] := by
  rw [List.range_succ, List.filter_append]
  simp [hP]

/-- The least one that does. -/
theorem least {P : Nat → Bool} {p n : Nat} : (∃ q, p ≤ q ∧ q < n ∧ P q = true ∧ ∀ j, p ≤ j → j < q → P j = false) ∨ ∀ j, p ≤ j → j < n → P j = false := by
  induction n with
  | zero => exact .inr fun j _ h => absurd h (Nat.not_lt_zero _)
  | succ n ih =>
    rcases ih with ⟨q, h1, h2, h3, h4⟩ | h
    · exact .inl ⟨q, h1, by omega, h3, h4⟩
    · by_cases hp : p ≤ n
      · cases hP : P n with
        | true => exact .inl ⟨n, hp, Nat.lt_succ_self _, hP, fun j h1 h2 => h j h1 h2⟩
        | false =>
          refine .inr fun j h1 h2 => ?_
          by_cases e : j = n
          · rw [e]; exact hP
          · exact h j h1 (by omega)
      · exact .inr fun j h1 h2 => by omega

/-! ### What is wanted -/
def wantR (D : Dat) (r p : Nat) : List Nat := (List.range p).filter fun i => decide (r < D.k i)
def wantL (D : Dat) : Nat → List Nat
  | 0 => []
  | r + 1 => wantL D r ++ wantR D r D.n
theorem wantR_len (D : Dat) (r p : Nat) : (wantR D r p).length ≤ p := by
  have := List.length_filter_le (fun i => decide (r < D.k i)) (List.range p)
  simpa [wantR] using this
theorem wantL_len (D : Dat) (r : Nat) : (wantL D r).length ≤ r * D.n := by
  induction r with
  | zero => simp [wantL]
  | succ r ih =>
    have := wantR_len D r D.n
    rw [wantL, List.length_append, Nat.succ_mul]
    omega

/-- So many additions have been made. -/
def sumC (c : Nat → Nat) : Nat → Nat
  | 0 => 0
  | n + 1 => sumC c n + c n
theorem sumC_upd {c : Nat → Nat} {j : Nat} : ∀ {n : Nat}, j < n → sumC (upd c j (c j + 1)) n = sumC c n + 1
  | 0, h => absurd h (Nat.not_lt_zero _)
  | n + 1, h => by
    have same : ∀ m, m ≤ j → sumC (upd c j (c j + 1)) m = sumC c m := fun m => by
      induction m with
      | zero => intro _; rfl
      | succ m ih =>
        intro hm
        rw [sumC, sumC, ih (by omega), upd_ne c _ (by omega)]
    by_cases e : j = n
    · subst e
      rw [sumC, sumC, same _ (Nat.le_refl _), upd_same]
      omega
    · rw [sumC, sumC, sumC_upd (by omega), upd_ne c _ (by omega)]
      omega
theorem sumC_eq {c c' : Nat → Nat} : ∀ {n : Nat}, (∀ j, j < n → c j = c' j) → sumC c n = sumC c' n
  | 0, _ => rfl
  | n + 1, h => by rw [sumC, sumC, sumC_eq fun j hj => h j (by omega), h n (by omega)]

/-- Between the rounds: in round r all below p have gone. -/
structure Sch (D : Dat) (c : Nat → Nat) (g : List Nat) (r p : Nat) : Prop where
  cs : ∀ j, j < D.n → c j = min (D.k j) (r + if j < p then 1 else 0)
  gs : g = wantL D r ++ wantR D r p
  last : las g = (p : Int) - 1
  r31 : r ≤ 31
  pn : p ≤ D.n
  len : g.length = sumC c D.n

theorem sch_zero (D : Dat) : Sch D (fun _ => 0) [] 0 0 := by
  refine ⟨fun j _ => by simp, rfl, rfl, by omega, Nat.zero_le _, ?_⟩
  have : ∀ n, sumC (fun _ => 0) n = 0 := fun n => by
    induction n with
    | zero => rfl
    | succ n ih => rw [sumC, ih]
  rw [this]; rfl

theorem Sch.small {D : Dat} {c : Nat → Nat} {g : List Nat} {r p : Nat} (S : Sch D c g r p) (hn : D.n ≤ 40) : g.length + 1 ≤ 1300 := by
  have h1 := wantL_len D r
  have h2 := wantR_len D r p
  have h3 := S.pn
  have h4 := S.r31
  have h5 : r * D.n ≤ 31 * 40 := Nat.mul_le_mul h4 hn
  rw [S.gs, List.length_append]
  omega
theorem las_app (g : List Nat) (j : Nat) : las (g ++ [j]) = j := by simp [las]

theorem Sch.next {D : Dat} {c : Nat → Nat} {g : List Nat} {r p : Nat} (S : Sch D c g r p) (hr : noneYet (rdy D c D.n) = false) :
    ∃ j r' p', Nxt (rdy D c D.n) (las g) j ∧ Sch D (upd c j (c j + 1)) (g ++ [j]) r' p' := by
  have hk : ∀ j, D.k j < 32 := fun j => Nat.mod_lt _ (by decide)
  have hc := S.cs
  have hpn := S.pn
  have mem : ∀ {x m : Nat}, x ∈ (List.range m).filter (fun j => decide (c j < D.k j)) → x < m ∧ c x < D.k x := fun h => by simpa using h
  have lenU : ∀ {j : Nat}, j < D.n → (g ++ [j]).length = sumC (upd c j (c j + 1)) D.n := fun h => by
    rw [sumC_upd h, List.length_append, S.len]; rfl
  rcases least (P := fun i => decide (r < D.k i)) (p := p) (n := D.n) with ⟨q, h1, h2, h3, h4⟩ | h
  · have h3' : r < D.k q := of_decide_eq_true h3
    have h4' : ∀ j, p ≤ j → j < q → D.k j ≤ r := fun j a b => by have := of_decide_eq_false (h4 j a b); omega
    have cq : c q = r := by
      rw [hc q h2, if_neg (by omega)]; omega
    have hq : (decide (c q < D.k q)) = true := decide_eq_true (by omega)
    obtain ⟨rest, hs⟩ := filter_split (P := fun j => decide (c j < D.k j)) h2 hq
    refine ⟨q, r, q + 1, .inl ⟨((List.range q).filter fun j => decide (c j < D.k j)).length, ?_, ?_, fun p' x hp' hx => ?_⟩, ⟨fun j hj => ?_, ?_, ?_, S.r31, by omega, lenU h2⟩⟩
    · unfold rdy
      rw [hs]
      simp
    · rw [S.last]; omega
    · unfold rdy at hx
      rw [hs, List.getElem?_append_left hp'] at hx
      obtain ⟨a, b⟩ := mem (List.mem_of_getElem? hx)
      have hxp : x < p := by
        refine Nat.lt_of_not_le fun hpx => ?_
        have := h4' x hpx a
        rw [hc x (by omega), if_neg (by omega)] at b
        omega
      rw [S.last]; omega
    · by_cases e : j = q
      · subst e
        rw [upd_same, cq, if_pos (by omega)]; omega
      · rw [upd_ne c _ e, hc j hj]
        by_cases e1 : j < p
        · rw [if_pos e1, if_pos (by omega)]
        · rw [if_neg e1]
          by_cases e2 : j < q + 1
          · rw [if_pos e2]
            have := h4' j (by omega) (by omega)
            omega
          · rw [if_neg e2]
    · have e1 : wantR D r (q + 1) = wantR D r p ++ [q] := by
        unfold wantR
        rw [filter_one h3, filter_gap h1 h4]
      rw [e1, ← List.append_assoc, ← S.gs]
    · rw [las_app]; omega
  · have h' : ∀ j, p ≤ j → j < D.n → D.k j ≤ r := fun j a b => by have := of_decide_eq_false (h j a b); omega
    rcases least (P := fun j => decide (c j < D.k j)) (p := 0) (n := D.n) with ⟨q, _, h2, h3, h4⟩ | hno
    · have h3' : c q < D.k q := of_decide_eq_true h3
      have hqp : q < p := by
        refine Nat.lt_of_not_le fun hpq => ?_
        have := h' q hpq h2
        rw [hc q h2, if_neg (by omega)] at h3'
        omega
      have cq : c q = r + 1 := by
        have := hc q h2
        rw [if_pos hqp] at this
        omega
      have hkq := hk q
      obtain ⟨rest, hs⟩ := filter_split (P := fun j => decide (c j < D.k j)) h2 h3
      have h0 : (List.range q).filter (fun j => decide (c j < D.k j)) = [] := by
        rw [List.filter_eq_nil_iff]
        intro a ha
        rw [h4 a (Nat.zero_le _) (List.mem_range.1 ha)]
        simp
      rw [h0, List.nil_append] at hs
      refine ⟨q, r + 1, q + 1, .inr ⟨fun p' x hx => ?_, ?_⟩, ⟨fun j hj => ?_, ?_, ?_, by omega, by omega, lenU h2⟩⟩
      · obtain ⟨a, b⟩ := mem (List.mem_of_getElem? hx)
        have hxp : x < p := by
          refine Nat.lt_of_not_le fun hpx => ?_
          have := h' x hpx a
          rw [hc x a, if_neg (by omega)] at b
          omega
        rw [S.last]; omega
      · unfold rdy
        rw [hs]
        rfl
      · by_cases e : j = q
        · subst e
          rw [upd_same, cq, if_pos (by omega)]; omega
        · rw [upd_ne c _ e]
          by_cases e1 : j < q + 1
          · rw [if_pos e1]
            have h5 := of_decide_eq_false (h4 j (Nat.zero_le _) (by omega))
            have h6 := hc j hj
            rw [if_pos (by omega)] at h6
            omega
          · rw [if_neg e1, hc j hj]
            by_cases e2 : j < p
            · rw [if_pos e2]
            · rw [if_neg e2]
              have := h' j (by omega) hj
              omega
      · have e1 : wantR D (r + 1) (q + 1) = [q] := by
          unfold wantR
          rw [filter_one (decide_eq_true (by omega))]
          have : (List.range q).filter (fun i => decide (r + 1 < D.k i)) = [] := by
            rw [List.filter_eq_nil_iff]
            intro a ha
            have ha' := List.mem_range.1 ha
            have h5 := of_decide_eq_false (h4 a (Nat.zero_le _) ha')
            have h6 := hc a (by omega)
            rw [if_pos (by omega)] at h6
            have : ¬ (r + 1 < D.k a) := by omega
            simp [this]
          rw [this, List.nil_append]
        have e2 : wantR D r D.n = wantR D r p := by
          unfold wantR
          exact filter_gap hpn h
        rw [wantL, e1, e2, ← S.gs]
      · rw [las_app]; omega
    · exfalso
      have : rdy D c D.n = [] := by
        unfold rdy
        rw [List.filter_eq_nil_iff]
        intro a ha
        rw [hno a (Nat.zero_le _) (List.mem_range.1 ha)]
        simp
      rw [this] at hr
      cases hr

/-- Nobody is ready: all is done. -/
theorem Sch.done {D : Dat} {c : Nat → Nat} {g : List Nat} {r p : Nat} (S : Sch D c g r p) (hr : noneYet (rdy D c D.n) = true) :
    (∀ j, j < D.n → c j = D.k j) ∧ g = wantL D 32 ∧ g.length = sumC D.k D.n := by
  have hnil := noneYet_t hr
  have hck : ∀ j, j < D.n → c j = D.k j := fun j hj => by
    have h1 : ¬ c j < D.k j := fun h => by
      have : j ∈ rdy D c D.n := by simp [rdy, hj, h]
      rw [hnil] at this
      cases this
    have := S.cs j hj
    omega
  refine ⟨hck, ?_, by rw [S.len]; exact sumC_eq hck⟩
  have hk1 : ∀ j, j < D.n → D.k j ≤ r + 1 := fun j hj => by
    have := S.cs j hj
    rw [hck j hj] at this
    split at this <;> omega
  have hk0 : ∀ j, p ≤ j → j < D.n → decide (r < D.k j) = false := fun j hp hj => by
    have := S.cs j hj
    rw [hck j hj, if_neg (by omega)] at this
    exact decide_eq_false (by omega)
  have e1 : g = wantL D (r + 1) := by
    rw [S.gs, wantL]
    unfold wantR
    rw [filter_gap S.pn hk0]
  have stay : ∀ m, wantL D (r + 1 + m) = wantL D (r + 1) := fun m => by
    induction m with
    | zero => rfl
    | succ m ih =>
      rw [← Nat.add_assoc, wantL, ih]
      have : wantR D (r + 1 + m) D.n = [] := by
        unfold wantR
        rw [List.filter_eq_nil_iff]
        intro a ha
        have := hk1 a (List.mem_range.1 ha)
        have : ¬ (r + 1 + m < D.k a) := by omega
        simp [this]
      rw [this, List.append_nil]
  have := S.r31
  rw [e1, ← stay (31 - r)]
  congr 1
  omega
end Go.Proofs.Ythaddgfbohmfoaa

/-
  Regions whose order is drawn.
-/
import Derived.Test.YtcpiafgkmakdiaaSxStep2
set_option linter.unusedSectionVars false
set_option linter.unusedVariables false
set_option linter.unusedSimpArgs false
namespace Go.Proofs.Ytcpiafgkmakdiaa.SX
open Go.Conc

/-! ### Schedules -/
def Sched (ops : Array Oper) : List Nat → List Nat → Prop
  | s, [] => readyIn ops s = []
  | s, i :: l => i ∈ readyIn ops s ∧ Sched ops (i :: s) l

def openIn (ops : Array Oper) (s : List Nat) : List Nat := (List.range ops.size).filter fun i => !s.contains i

theorem openIn_cons {ops : Array Oper} {s : List Nat} {i : Nat} (hi : i ∈ openIn ops s) : (openIn ops (i :: s)).length < (openIn ops s).length := by
  have : openIn ops (i :: s) = (openIn ops s).filter fun j => !(j == i) := by
    unfold openIn
    rw [List.filter_filter]
    apply List.filter_congr
    intro j _
    by_cases hj : j = i <;> simp [List.contains_cons, hj]
  rw [this]
  exact List.length_filter_lt_length_iff_exists.2 ⟨i, hi, by simp⟩

theorem readyIn_sub {ops : Array Oper} {s : List Nat} {i : Nat} (h : i ∈ readyIn ops s) : i ∈ openIn ops s := by
  unfold readyIn at h
  obtain ⟨h1, h2⟩ := List.mem_filter.1 h
  exact List.mem_filter.2 ⟨h1, by simp only [Bool.and_eq_true] at h2; exact h2.1⟩

theorem readyIn_mem {ops : Array Oper} {s : List Nat} {i : Nat} (h : i ∈ readyIn ops s) : i < ops.size ∧ i ∉ s := by
  obtain ⟨h1, h2⟩ := List.mem_filter.1 (readyIn_sub h)
  exact ⟨List.mem_range.1 h1, by simpa using h2⟩

theorem go_sched (ops : Array Oper) : ∀ (fuel t : Nat) (listed : Array Bool) (acc s : List Nat), listed.size = ops.size → (∀ j, listed.getD j false = s.contains j) → (openIn ops s).length ≤ fuel →
    ∃ l, Region.linearise.go .any ops fuel t listed acc = acc.reverse ++ l ∧ Sched ops s l := by
  intro fuel
  induction fuel with
  | zero =>
    intro t listed acc s _ _ ho
    refine ⟨[], by simp [Region.linearise.go], ?_⟩
    show readyIn ops s = []
    apply List.eq_nil_iff_forall_not_mem.2
    intro i hi
    have := readyIn_sub hi
    rw [List.eq_nil_of_length_eq_zero (Nat.le_zero.1 ho)] at this
    cases this
  | succ fuel ih =>
    intro t listed acc s hsz hl ho
    have hrs : ((List.range ops.size).filter fun i => !listed.getD i true && ((ops[i]?).map (fun o => o.after.all fun e => !Region.binds .any e || listed.getD e.on false)).getD false) = readyIn ops s := by
      unfold readyIn
      apply List.filter_congr
      intro i hi
      have hi' : i < ops.size := List.mem_range.1 hi
      have h1 : listed.getD i true = listed.getD i false := by
        rw [Array.getD_eq_getD_getElem?, Array.getD_eq_getD_getElem?, Array.getElem?_eq_getElem (by rw [hsz]; exact hi')]; rfl
      rw [h1, hl i, Array.getElem?_eq_getElem hi']
      simp only [Option.map_some, Option.getD_some, boundIn]
      congr 1
      congr 1
      funext e
      rw [hl e.on]
    rw [Region.linearise.go]
    simp only [hrs]
    split
    · rename_i i hi
      have hmem : i ∈ readyIn ops s := List.mem_of_getElem? hi
      obtain ⟨hi1, hi2⟩ := readyIn_mem hmem
      have hl' : ∀ j, (listed.setIfInBounds i true).getD j false = (i :: s).contains j := fun j => by
        rw [Array.getD_eq_getD_getElem?, List.contains_cons]
        by_cases hj : j = i
        · subst hj; simp [hsz, hi1]
        · have : (j == i) = false := by simpa using hj
          rw [this, Bool.false_or, ← hl j, Array.getD_eq_getD_getElem?, Array.getElem?_setIfInBounds_ne (fun x => hj x.symm)]
      obtain ⟨l, e, hs⟩ := ih (t / (readyIn ops s).length) (listed.setIfInBounds i true) (i :: acc) (i :: s) (by simpa using hsz) hl' (by have := openIn_cons (readyIn_sub hmem); omega)
      exact ⟨i :: l, by rw [e]; simp, hmem, hs⟩
    · rename_i hn
      refine ⟨[], by simp, ?_⟩
      show readyIn ops s = []
      rcases Nat.eq_zero_or_pos (readyIn ops s).length with h0 | h0
      · exact List.eq_nil_of_length_eq_zero h0
      · rw [List.getElem?_eq_none_iff] at hn
        have := Nat.mod_lt t h0
        omega

theorem schedule_sched (ops : Array Oper) (t : Nat) : Sched ops [] (Region.schedule true ops t) := by
  obtain ⟨l, e, h⟩ := go_sched ops ops.size t (Array.replicate ops.size false) [] [] (by simp) (fun j => by
    rw [Array.getD_eq_getD_getElem?, Array.getElem?_replicate]; split <;> simp) (by
    unfold openIn; exact Nat.le_trans (List.length_filter_le _ _) (by simp))
  have : Region.schedule true ops t = l := by simp [Region.schedule, Region.linearise, e]
  rw [this]; exact h

/-! ### Sets -/
theorem sameSet_mem {a b : List Nat} (h : sameSet a b = true) (i : Nat) : i ∈ a ↔ i ∈ b := by
  unfold sameSet at h
  simp only [Bool.and_eq_true, List.all_eq_true, List.contains_iff_mem] at h
  exact ⟨h.1 i, h.2 i⟩

theorem contains_congr {a b : List Nat} (h : ∀ i, i ∈ a ↔ i ∈ b) (i : Nat) : a.contains i = b.contains i := by
  have := h i
  by_cases hi : i ∈ a
  · simp [hi, this.1 hi]
  · have : i ∉ b := fun x => hi (this.2 x)
    simp [hi, this]

theorem readyIn_congr {ops : Array Oper} {a b : List Nat} (h : ∀ i, i ∈ a ↔ i ∈ b) : readyIn ops a = readyIn ops b := by
  unfold readyIn
  apply List.filter_congr
  intro i _
  rw [contains_congr h]
  congr 1
  split
  · unfold boundIn
    congr 1
    funext e
    rw [contains_congr h]
  · rfl

theorem Sched.congr {ops : Array Oper} : ∀ {l a b : List Nat}, (∀ i, i ∈ a ↔ i ∈ b) → Sched ops a l → Sched ops b l
  | [], a, b, h, hs => by
    have : readyIn ops a = [] := hs
    show readyIn ops b = []
    rw [← readyIn_congr h]; exact this
  | i :: l, a, b, h, hs => ⟨by rw [← readyIn_congr h]; exact hs.1, Sched.congr (fun j => by simp [h j]) hs.2⟩

/-! ### Numbers of a fork -/
def Us (U0 : Nat → Prop) (h0 : AH) (s : List Nat) : Nat → Prop := fun n => U0 n ∨ ∃ j ∈ s, h0.nb + j * stride h0 ≤ n ∧ n < h0.nb + (j + 1) * stride h0

theorem Us_congr {U0 : Nat → Prop} {h0 : AH} {a b : List Nat} (h : ∀ i, i ∈ a ↔ i ∈ b) (n : Nat) : Us U0 h0 a n → Us U0 h0 b n := by
  rintro (x | ⟨j, hj, x⟩)
  · exact .inl x
  · exact .inr ⟨j, (h j).1 hj, x⟩

theorem stride_lim (h0 : AH) {i : Nat} (hi : i < 65536) {n : Nat} (hn : n < h0.nb + (i + 1) * stride h0) (hn0 : h0.nb + i * stride h0 ≤ n) : n < h0.lim := by
  have h1 : (i + 1) * stride h0 ≤ 65536 * stride h0 := Nat.mul_le_mul_right _ hi
  have h2 : 65536 * stride h0 ≤ h0.lim - h0.nb := Nat.mul_div_le _ _
  omega

theorem ranges_apart {s i j n nb : Nat} (h1 : nb + i * s ≤ n) (h2 : n < nb + (i + 1) * s) (h3 : nb + j * s ≤ n) (h4 : n < nb + (j + 1) * s) : i = j := by
  rcases Nat.lt_trichotomy i j with h | h | h
  · have := Nat.mul_le_mul_right s (Nat.succ_le_of_lt h); simp only [Nat.succ_eq_add_one] at this; omega
  · exact h
  · have := Nat.mul_le_mul_right s (Nat.succ_le_of_lt h); simp only [Nat.succ_eq_add_one] at this; omega

theorem Us_fresh {K : Ctx} {U0 : Nat → Prop} {h0 : AH} {s : List Nat} {i : Nat} (I0 : Ids K U0 h0) (hi : i < 65536) (hs : i ∉ s) {n : Nat} (h1 : h0.nb + i * stride h0 ≤ n) (h2 : n < h0.nb + (i + 1) * stride h0) : ¬ Us U0 h0 s n := by
  rintro (x | ⟨j, hj, x1, x2⟩)
  · exact I0.fresh n (by omega) (stride_lim h0 hi h2 h1) x
  · have := ranges_apart h1 h2 x1 x2
    subst this
    exact hs hj

theorem Rel.hp {K : Ctx} {ρ : Env} {h h' : AH} {w : World} (R : Rel K ρ h w) (e : h'.hp = h.hp) : Rel K ρ h' w :=
  ⟨fun i b hb => R.blk i b (by rw [← e]; exact hb), fun i b hb => R.own' i b (by rw [← e]; exact hb), fun i j b c h1 h2 => R.inj i j b c (by rw [← e]; exact h1) (by rw [← e]; exact h2), R.bs, R.is, R.mem, R.room, fun i b hb => R.lent i b (by rw [← e]; exact hb), R.low⟩

theorem Gam.hp {K : Ctx} {ρ : Env} {cur : AFrame} {callers : List AFrame} {h h' : AH} {cs : List Frame} {g : Goroutine} {w : World} (Γ : Gam K ρ ⟨cur, callers, h⟩ cs g w) (e : h'.hp = h.hp) : Gam K ρ ⟨cur, callers, h'⟩ cs g w :=
  ⟨Rel.hp Γ.1 e, Γ.2⟩

theorem CIds.lax {K : Ctx} {U U' : Nat → Prop} {cur : AFrame} {callers : List AFrame} {h h' : AH} (I : CIds K U ⟨cur, callers, h⟩) (e : h'.hp = h.hp) (hs : ∀ n, U n → U' n) (fr : ∀ n, h'.nb ≤ n → n < h'.lim → ¬ U' n) : CIds K U' ⟨cur, callers, h'⟩ :=
  ⟨I.cur.mono hs, fun fr hf => (I.callers fr hf).mono hs, ⟨fun i b hb => ABlk.In.mono hs (I.ids.hp i b (by rw [← e]; exact hb)), fun i hi => hs i (I.ids.keys i (by show i ∈ Go.Proofs.Ytcpiafgkmakdiaa.SX.keys h.hp; rw [← e]; exact hi)), (by show (Go.Proofs.Ytcpiafgkmakdiaa.SX.keys h'.hp).Nodup; rw [e]; exact I.ids.nodup), fr, I.ids.orc.mono hs⟩⟩

section
variable {K : Ctx} {main : Bool} {nt : Nat} {ops : Array Oper}

theorem putLvl_ok {s : List Nat} {t : TT} {h : AH} : ∀ {L L' : Lvl}, putLvl s t h L = .ok L' → (∀ e ∈ L, e ∈ L') ∧ ∃ s' h', (s', t, h') ∈ L' ∧ sameSet s s' = true ∧ h'.hp = h.hp
  | [], L', he => by
    simp only [putLvl] at he
    cases he
    refine ⟨(fun e x => by cases x), s, h, List.mem_singleton.2 rfl, ?_, rfl⟩
    simp [sameSet]
  | (s', t', h') :: L, L', he => by
    simp only [putLvl] at he
    split at he
    · rename_i hs
      split at he
      · rename_i hq
        cases he
        simp only [Bool.and_eq_true] at hq
        obtain rfl := TT.eqb_eq hq.1
        exact ⟨fun e x => x, s', h', List.mem_cons_self .., hs, (hpEqb_eq hq.2).symm⟩
      · cases he
    · split at he
      · rename_i l hl
        cases he
        obtain ⟨a, s2, h2, b, c, d⟩ := putLvl_ok hl
        refine ⟨fun e x => ?_, s2, h2, List.mem_cons_of_mem _ b, c, d⟩
        rcases List.mem_cons.1 x with rfl | x
        · exact List.mem_cons_self ..
        · exact List.mem_cons_of_mem _ (a e x)
      · cases he

/-- From a state of a fork to a state of the next level. -/
def Forks (K : Ctx) (U0 : Nat → Prop) (h0 : AH) (ρ : Env) (cs : List Frame) (w : World) (fn : FuncId) (nt : Nat) (ops : Array Oper) (l : List Nat) (k : List Item) (defers : List AD) (kind : CallKind) (callers : List AFrame) (s1 : List Nat) (L' : Lvl) (g' : Goroutine) (w' : World) : Prop :=
  ∃ s' t' h', (s', t', h') ∈ L' ∧ (∀ i, i ∈ s1 ↔ i ∈ s') ∧ ∃ ρ', Agree U0 ρ ρ' ∧ Keeps K.own w w' ∧ CIds K (Us U0 h0 s') ⟨⟨fn, nt, t', .inRegion ops l :: k, defers, .run, kind⟩, callers, bare h'⟩ ∧
    Gam K ρ' ⟨⟨fn, nt, t', .inRegion ops l :: k, defers, .run, kind⟩, callers, h'⟩ cs g' w'

theorem Forks.sub {U0 : Nat → Prop} {h0 : AH} {ρ : Env} {cs : List Frame} {w : World} {fn : FuncId} {l : List Nat} {k : List Item} {defers : List AD} {kind : CallKind} {callers : List AFrame} {s1 : List Nat} {L L' : Lvl} {g' : Goroutine} {w' : World}
    (hs : ∀ e ∈ L, e ∈ L') (F : Forks K U0 h0 ρ cs w fn nt ops l k defers kind callers s1 L g' w') : Forks K U0 h0 ρ cs w fn nt ops l k defers kind callers s1 L' g' w' := by
  obtain ⟨s', t', h', a, b⟩ := F
  exact ⟨s', t', h', hs _ a, b⟩

theorem stepOne_ok (Gd : K.Good) (F : K.Facts) {ext : Ext} (X : ExtOk K ext) {call : FuncId → List AV → AH → M (AE × AH)} (C : CallOk K main call) (hops : ops.size ≤ 65536) {h0 : AH} {s : List Nat} {t : TT} {h : AH} :
    ∀ {r : List Nat} {L L' : Lvl}, stepOne K.P K.O ext call nt ops h0 s t h r L = .ok L' → (∀ e ∈ L, e ∈ L') ∧
      ∃ N, ∀ i ∈ r, i < ops.size → i ∉ s → ∀ {fn defers kind callers U0 ρ cs g w l k}, Ids K U0 h0 → CIds K (Us U0 h0 s) ⟨⟨fn, nt, t, .inRegion ops (i :: l) :: k, defers, .run, kind⟩, callers, bare h⟩ →
        Gam K ρ ⟨⟨fn, nt, t, .inRegion ops (i :: l) :: k, defers, .run, kind⟩, callers, h⟩ cs g w → Walk K.P main (DK K) (Forks K U0 h0 ρ cs w fn nt ops l k defers kind callers (i :: s) L') N g w
  | [], L, L', he => by
    simp only [stepOne] at he
    cases he
    exact ⟨fun e x => x, 0, fun i x => by cases x⟩
  | i :: r, L, L', he => by
    simp only [stepOne] at he
    split at he
    · cases he
    · cases he
    · rename_i t' h' hop
      split at he
      · rename_i hlim
        split at he
        · rename_i L1 hput
          obtain ⟨a1, s', hh, a2, a3, a4⟩ := putLvl_ok hput
          obtain ⟨b1, N, b2⟩ := stepOne_ok Gd F X C hops he
          obtain ⟨M, hM⟩ := opFull_ok Gd F X C hop
          refine ⟨fun e x => b1 e (a1 e x), N + M, fun j hj hj1 hj2 {fn defers kind callers U0 ρ cs g w l k} I0 I Γ => ?_⟩
          rcases List.mem_cons.1 hj with rfl | hj
          · have I' : CIds K (Us U0 h0 s) ⟨⟨fn, nt, t, .inRegion ops (j :: l) :: k, defers, .run, kind⟩, callers, rangeFor h0 j h⟩ :=
              I.lax rfl (fun n x => x) fun n x1 x2 => Us_fresh I0 (by omega) hj2 x1 x2
            refine ((hM I' (Γ.hp rfl)).weaken fun g' w' nx => ?_).mono (Nat.le_add_left _ _)
            obtain ⟨ρ', c1, c2, c3, c4, c5⟩ := nx
            refine ⟨s', t', hh, b1 _ a2, sameSet_mem a3, ρ', c1.mono (fun n x => .inl x), c2, ?_, c5.hp a4⟩
            refine c4.lax a4 (fun n x => ?_) fun n x1 x2 => by simp [bare] at x2
            rcases x with (x | ⟨q, q1, q2⟩) | x
            · exact .inl x
            · exact .inr ⟨q, (sameSet_mem a3 q).1 (List.mem_cons_of_mem _ q1), q2⟩
            · have hl : h'.lim = (rangeFor h0 j h).lim := c3.lim
              refine .inr ⟨j, (sameSet_mem a3 j).1 (List.mem_cons_self ..), x.1, ?_⟩
              have hl2 : h'.lim = h0.nb + (j + 1) * stride h0 := hl
              have hx := x.2
              dsimp only at hx
              omega
          · exact (b2 j hj hj1 hj2 I0 I Γ).mono (Nat.le_add_right _ _)
        · cases he
      · cases he

theorem stepLvl_ok (Gd : K.Good) (F : K.Facts) {ext : Ext} (X : ExtOk K ext) {call : FuncId → List AV → AH → M (AE × AH)} (C : CallOk K main call) (hops : ops.size ≤ 65536) {h0 : AH} :
    ∀ {A L L' : Lvl}, stepLvl K.P K.O ext call nt ops h0 A L = .ok L' → (∀ e ∈ L, e ∈ L') ∧
      ∃ N, ∀ s t h, (s, t, h) ∈ A → readyIn ops s ≠ [] ∧ ∀ i ∈ readyIn ops s, ∀ {fn defers kind callers U0 ρ cs g w l k}, Ids K U0 h0 → CIds K (Us U0 h0 s) ⟨⟨fn, nt, t, .inRegion ops (i :: l) :: k, defers, .run, kind⟩, callers, bare h⟩ →
        Gam K ρ ⟨⟨fn, nt, t, .inRegion ops (i :: l) :: k, defers, .run, kind⟩, callers, h⟩ cs g w → Walk K.P main (DK K) (Forks K U0 h0 ρ cs w fn nt ops l k defers kind callers (i :: s) L') N g w
  | [], L, L', he => by
    simp only [stepLvl] at he
    cases he
    exact ⟨fun e x => x, 0, fun s t h x => by cases x⟩
  | (s, t, h) :: A, L, L', he => by
    simp only [stepLvl] at he
    split at he
    · cases he
    · rename_i hne
      split at he
      · rename_i L1 h1
        obtain ⟨a1, N, a2⟩ := stepOne_ok Gd F X C hops h1
        obtain ⟨b1, M, b2⟩ := stepLvl_ok Gd F X C hops he
        refine ⟨fun e x => b1 e (a1 e x), N + M, fun s' t' h' hm => ?_⟩
        rcases List.mem_cons.1 hm with hq | hm
        · cases hq
          refine ⟨fun x => hne (by simp [x]), fun i hi {fn defers kind callers U0 ρ cs g w l k} I0 I Γ => ?_⟩
          obtain ⟨x1, x2⟩ := readyIn_mem hi
          exact ((a2 i hi x1 x2 I0 I Γ).weaken fun g' w' f => f.sub b1).mono (Nat.le_add_right _ _)
        · obtain ⟨c1, c2⟩ := b2 s' t' h' hm
          exact ⟨c1, fun i hi {fn defers kind callers U0 ρ cs g w l k} I0 I Γ => (c2 i hi I0 I Γ).mono (Nat.le_add_left _ _)⟩
      · cases he
end
end Go.Proofs.Ytcpiafgkmakdiaa.SX

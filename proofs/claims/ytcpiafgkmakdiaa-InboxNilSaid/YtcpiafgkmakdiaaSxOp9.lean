/-
  The built-ins; what is called; every operation.
-/
import Derived.Test.YtcpiafgkmakdiaaSxMaps
set_option linter.unusedSectionVars false
set_option linter.unusedVariables false
set_option linter.unusedSimpArgs false
namespace Go.Proofs.Ytcpiafgkmakdiaa.SX

def ATarget.ev (ρ : Env) : ATarget → Target
  | .fn f c => .fn f (AV.evs ρ c).toArray
  | .builtin b a t c => .builtin b a t c
def AD.ev (ρ : Env) (d : AD) : Deferred := { target := d.target.ev ρ, args := (AV.evs ρ d.args).toArray }
def ATarget.In (U : Nat → Prop) : ATarget → Prop
  | .fn _ c => AV.Ins U c
  | .builtin _ _ _ _ => True
def AD.In (U : Nat → Prop) (d : AD) : Prop := d.target.In U ∧ AV.Ins U d.args

/-- What an operation's yield means. -/
def AN.is (ρ : Env) : AN → Next → Prop
  | .value v, nx => nx = .value (v.ev ρ)
  | .skip, nx => nx = .skip
  | .enter f args, nx => nx = .enter f (AV.evs ρ args).toArray
  | .defer d, nx => nx = .defer (d.ev ρ)
  | .recover, nx => nx = .recover
  | .panic _, _ => False
def AN.In (U : Nat → Prop) : AN → Prop
  | .value v => v.In U
  | .skip => True
  | .enter _ args => AV.Ins U args
  | .defer d => d.In U
  | .recover => True
  | .panic v => v.In U

structure NOk (K : Ctx) (U : Nat → Prop) (ρ : Env) (h : AH) (w : World) (s : Sem Next) (n : AN) (h' : AH) : Prop where
  mem : n.In (plus U h.nb h'.nb)
  grows : Grows K U h h'
  run : ∀ {E : Value → World → Prop} {Q : Next → World → Prop}, (∀ nx w', After K U ρ w h' (fun ρ' => n.is ρ' nx) w' → Q nx w') → (∀ v, n = .panic v → h' = h → E (v.ev ρ) w) → wq K.P K.Ev E s Q w

section
variable {K : Ctx} {ρ : Env} {h : AH} {w : World} {U : Nat → Prop}

theorem valOp_ok {r : M AV} {n : AN} {h' : AH} (he : valOp r h = .ok (n, h')) : ∃ v, r = .ok v ∧ n = .value v ∧ h' = h := by
  unfold valOp at he
  split at he
  · cases he; exact ⟨_, rfl, rfl, rfl⟩
  · cases he
theorem allocOp_ok {r : M (AV × AH)} {n : AN} {h' : AH} (he : allocOp r = .ok (n, h')) : ∃ v, r = .ok (v, h') ∧ n = .value v := by
  unfold allocOp at he
  split at he
  · cases he; exact ⟨_, rfl, rfl⟩
  · cases he
theorem skipOp_ok {r : M AH} {n : AN} {h' : AH} (he : skipOp r = .ok (n, h')) : r = .ok h' ∧ n = .skip := by
  unfold skipOp at he
  split at he
  · cases he; exact ⟨rfl, rfl⟩
  · cases he

theorem HOk.next {s : Sem Value} {v : AV} {h' : AH} (H : HOk K U ρ h w s v h') : NOk K U ρ h w (do Pure.pure (.value (← s))) (.value v) h' :=
  ⟨H.mem, H.grows, fun hq _ => by
    simp only [wq_bind, wq_pure]
    exact H.run fun x w' ⟨ρ', a1, a2, a3, a4⟩ => hq _ _ ⟨ρ', a1, a2, a3, by rw [a4]; rfl⟩⟩

theorem NOk.pure (R : Rel K ρ h w) (I : Ids K U h) {s : Sem Value} {v : AV} (hi : v.In U) (hw : ∀ {E : Value → World → Prop} {Q : Value → World → Prop}, Q (v.ev ρ) w → wq K.P K.Ev E s Q w) : NOk K U ρ h w (do Pure.pure (.value (← s))) (.value v) h :=
  (HOk.pure R I hi hw).next

/-! ### The built-ins -/
theorem wq_len {E : Value → World → Prop} {argTypes : Array TypeId} {ty t : TypeId} {x : AV} {e : IE} (ht : argTypes[0]? = some t) (R : Rel K ρ h w) (G : K.Good) (he : lenOf? K.P h t x = .ok e) {Q : Value → World → Prop} (hq : Q (.int .i64 (e.ev ρ)) w) :
    wq K.P K.Ev E (Builtin.len_ argTypes ty #[x.ev ρ]) Q w := by
  unfold lenOf? at he
  simp only [bind_ok] at he
  obtain ⟨D, hD, he⟩ := he
  simp only [Builtin.len_, ht, List.getElem?_toArray, List.getElem?_cons_zero, wq_bind, wq_underlying (under?_ok hD)]
  split at he
  · rw [pure_ok] at he; subst he; exact hq
  · rw [pure_ok] at he; subst he
    simp only
    exact hq
  · rw [pure_ok] at he; subst he; exact hq
  · rw [pure_ok] at he; subst he; exact hq
  · rw [pure_ok] at he; subst he; exact hq
  · rename_i i
    split at he
    · rename_i es hb
      rw [pure_ok] at he; subst he
      obtain ⟨o, h1, h2⟩ := R.blk _ _ hb
      obtain ⟨arr, clk, rfl, h3⟩ := is_map h2
      simp only [AV.ev, Option.map_some, BR.ev, wq_bind]
      refine wq_getObj h1 (by intros; simp) (G.obj _ _ _ (R.own _ _ hb rfl)) ?_
      have : arr.size = es.length := by have := congrArg List.length h3; simpa using this
      simp only [this]
      exact hq
    · cases he
  · cases he
theorem lenOf?_in {P : Program} {t : TypeId} {x : AV} {e : IE} (he : lenOf? P h t x = .ok e) (hx : x.In U) : e.In U := by
  unfold lenOf? at he
  simp only [bind_ok] at he
  obtain ⟨D, hD, he⟩ := he
  split at he
  · rw [pure_ok] at he; subst he; trivial
  · rw [pure_ok] at he; subst he; trivial
  · rw [pure_ok] at he; subst he; exact hx.2.1
  · rw [pure_ok] at he; subst he; trivial
  · rw [pure_ok] at he; subst he; trivial
  · split at he
    · rw [pure_ok] at he; subst he; trivial
    · cases he
  · cases he

theorem wq_min (R : Rel K ρ h w) {E : Value → World → Prop} : ∀ {l : List AV} {x v : AV}, minMax? K.O false x l = .ok v → ∀ {Q : Value → World → Prop}, Q (v.ev ρ) w → wq K.P K.Ev E ((AV.evs ρ l).foldlM Builtin.min2 (x.ev ρ)) Q w := by
  intro l
  induction l with
  | nil => intro x v he Q hq; simp [minMax?] at he; subst he; exact hq
  | cons y l ih =>
    intro x v he Q hq
    unfold minMax? at he
    split at he
    · rename_i hnil; cases hnil
    · rename_i k x' k' y' l' hl
      cases hl
      split at he
      · rename_i hk; subst hk
        simp only [bind_ok] at he
        obtain ⟨t, ht, he⟩ := he
        have hd := dec_ev R ht
        simp only [Bool.false_eq_true, if_false, BE.ev, icmp] at hd
        simp only [AV.evs, List.foldlM_cons, wq_bind, AV.ev, Builtin.min2, wq_pure]
        have := ih he hq
        simp only [AV.ev] at this
        by_cases hlt : y'.ev ρ < x'.ev ρ
        · rw [if_pos hlt]
          have ht' : t = true := by rw [← hd]; exact decide_eq_true hlt
          subst ht'; exact this
        · rw [if_neg hlt]
          have ht' : t = false := by rw [← hd]; exact decide_eq_false hlt
          subst ht'; exact this
      · cases he
    · cases he
theorem wq_max (R : Rel K ρ h w) {E : Value → World → Prop} : ∀ {l : List AV} {x v : AV}, minMax? K.O true x l = .ok v → ∀ {Q : Value → World → Prop}, Q (v.ev ρ) w → wq K.P K.Ev E ((AV.evs ρ l).foldlM Builtin.max2 (x.ev ρ)) Q w := by
  intro l
  induction l with
  | nil => intro x v he Q hq; simp [minMax?] at he; subst he; exact hq
  | cons y l ih =>
    intro x v he Q hq
    unfold minMax? at he
    split at he
    · rename_i hnil; cases hnil
    · rename_i k x' k' y' l' hl
      cases hl
      split at he
      · rename_i hk; subst hk
        simp only [bind_ok] at he
        obtain ⟨t, ht, he⟩ := he
        have hd := dec_ev R ht
        simp only [if_true, BE.ev, icmp] at hd
        simp only [AV.evs, List.foldlM_cons, wq_bind, AV.ev, Builtin.max2, wq_pure]
        have := ih he hq
        simp only [AV.ev] at this
        by_cases hlt : y'.ev ρ > x'.ev ρ
        · rw [if_pos hlt]
          have ht' : t = true := by rw [← hd]; exact decide_eq_true hlt
          subst ht'; exact this
        · rw [if_neg hlt]
          have ht' : t = false := by rw [← hd]; exact decide_eq_false hlt
          subst ht'; exact this
      · cases he
    · cases he
theorem minMax?_in {O : Orc} {mx : Bool} : ∀ {l : List AV} {x v : AV}, minMax? O mx x l = .ok v → x.In U → AV.Ins U l → v.In U := by
  intro l
  induction l with
  | nil => intro x v he hx _; simp [minMax?] at he; subst he; exact hx
  | cons y l ih =>
    intro x v he hx hl
    unfold minMax? at he
    split at he
    · rename_i hnil; cases hnil
    · rename_i k x' k' y' l' hl'
      cases hl'
      split at he
      · simp only [bind_ok] at he
        obtain ⟨t, ht, he⟩ := he
        refine ih he ?_ hl.2
        cases t
        · exact hx
        · exact hl.1
      · cases he
    · cases he

theorem copy?_ok (G : K.Good) (R : Rel K ρ h w) (I : Ids K U h) {argTypes : Array TypeId} {ty : TypeId} {d s v : AV} {h' : AH} (he : copy? K.P K.O h argTypes d s = .ok (v, h')) : HOk K U ρ h w (Builtin.copy_ argTypes ty #[d.ev ρ, s.ev ρ]) v h' := by
  unfold copy? at he
  split at he
  · rename_i dType h0
    simp only [bind_ok] at he
    obtain ⟨D, hD, he⟩ := he
    split at he
    · rename_i elem
      simp only [bind_ok] at he
      obtain ⟨size, hs, he⟩ := he
      split at he
      · rename_i base dl c sb sl c2
        simp only [bind_ok] at he
        obtain ⟨m, hm, n, hn, new, hnew, he⟩ := he
        obtain rfl := litNat?_ok hm
        obtain rfl := litNat?_ok hn
        have e0 : (Int.ofNat m).toNat = m := rfl
        have e1 : (Int.ofNat n).toNat = n := rfl
        have first : ∀ {E : Value → World → Prop} {Q' : Array Value → World → Prop}, Q' (AV.evs ρ new).toArray w → wq K.P K.Ev E (Builtin.firstCells size (Nat.min m n) (.slice (sb.map (AA.ev ρ)) m (c2.ev ρ).toNat)) Q' w := by
          intro E Q' hq'
          unfold copyFrom? at hnew
          split at hnew
          · simp only [Option.map_some, Builtin.firstCells, loadCells]
            exact loadN_sound R G hnew (by simpa using hq')
          · cases hnew; exact hq'
        have hnin : AV.Ins U new := by
          unfold copyFrom? at hnew
          split at hnew
          · exact loadN_in I hnew
          · cases hnew; trivial
        have front : ∀ {E : Value → World → Prop} {Q : Value → World → Prop}, wq K.P K.Ev E (do
            if let some a := base.map (AA.ev ρ) then storeCells a (AV.evs ρ new)
            Pure.pure (goInt (Nat.min m n : Nat)) : Sem Value) Q w → wq K.P K.Ev E (Builtin.copy_ argTypes ty #[(AV.slice base (.lit (.ofNat n)) c).ev ρ, (AV.slice sb (.lit (.ofNat m)) c2).ev ρ]) Q w := by
          intro E Q hq
          simp only [Builtin.copy_, h0, List.getElem?_toArray, List.getElem?_cons_zero, List.getElem?_cons_succ, wq_bind, wq_underlying (under?_ok hD), AV.ev, IE.ev, e0, e1, Builtin.lenOf, wq_pure, wq_sizeOf hs]
          refine first ?_
          exact hq
        unfold copyTo? at he
        split at he
        · rename_i a
          split at he
          · rename_i h2 hst
            cases he
            have hnb := storeN_nb hst
            refine ⟨trivial, Grows.of_same (storeN_ids I hst hnin) hnb.1 hnb.2, fun {E Q} hq => front ?_⟩
            simp only [Option.map_some, wq_bind]
            refine storeN_sound G R hst fun w' r1 r2 _ _ => ?_
            exact hq _ _ ⟨ρ, Agree.refl _ _, r1, r2, rfl⟩
          · cases he
        · cases he
          refine HOk.pure R I trivial fun {E Q} hq => front ?_
          simp only [Option.map_none, wq_bind, wq_pure]
          exact hq
      · cases he
    · cases he
  · cases he

theorem builtin?_ok (G : K.Good) (R : Rel K ρ h w) (I : Ids K U h) {b : Builtin} {argTypes : Array TypeId} {ty : TypeId} {consts : Array Bool} {args : List AV} {n : AN} {h' : AH} (ha : AV.Ins U args) (he : builtin? K.P K.O h b argTypes args = .ok (n, h')) :
    NOk K U ρ h w (builtin b argTypes ty consts (AV.evs ρ args).toArray) n h' := by
  unfold builtin? at he
  split at he
  · rename_i x
    split at he
    · rename_i t ht
      split at he
      · rename_i e hl
        cases he
        exact NOk.pure R I (v := .int .i64 (K.O.int e)) (int_in I (lenOf?_in hl ha.1)) fun {E Q} hq => wq_len ht R G hl (by simpa only [AV.ev, int_ev R] using hq)
      · cases he
    · cases he
  · rename_i a l c
    split at he
    · rename_i t ht
      split at he
      · rename_i elem hD
        cases he
        refine NOk.pure R I (v := .int .i64 (K.O.int (.tn c))) (int_in I ha.1.2.2) fun {E Q} hq => ?_
        simp only [AV.ev, int_ev R, IE.ev] at hq
        simp only [AV.evs, AV.ev, Builtin.cap_, ht, List.getElem?_toArray, List.getElem?_cons_zero, wq_bind, wq_underlying (under?_ok hD), wq_pure]
        exact hq
      · cases he
    · cases he
  · obtain ⟨v, hv, rfl⟩ := allocOp_ok he
    exact (append?_ok G R I ha.1 ha.2.1 hv).next
  · obtain ⟨v, hv, rfl⟩ := allocOp_ok he
    exact (copy?_ok G R I hv).next
  · rename_i x l
    obtain ⟨v, hv, rfl, rfl⟩ := valOp_ok he
    exact NOk.pure R I (minMax?_in hv ha.1 ha.2) fun {E Q} hq => wq_min R hv hq
  · rename_i x l
    obtain ⟨v, hv, rfl, rfl⟩ := valOp_ok he
    exact NOk.pure R I (minMax?_in hv ha.1 ha.2) fun {E Q} hq => wq_max R hv hq
  · cases he
    exact ⟨trivial, Grows.refl I, fun hq _ => hq _ _ (After.same R rfl)⟩
  · rename_i t v
    cases he
    exact ⟨AV.In.mono plus_sub (.iface t v) ha.1, Grows.refl I, fun hq hE => hE _ rfl rfl⟩
  · cases he
end
end Go.Proofs.Ytcpiafgkmakdiaa.SX

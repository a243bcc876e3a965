/-
  The operations: sums, places, parts.
-/
import Derived.Test.YtcpiafgkmakdiaaSxOp2
set_option linter.unusedSectionVars false
set_option linter.unusedVariables false
set_option linter.unusedSimpArgs false
namespace Go.Proofs.Ytcpiafgkmakdiaa.SX
section
variable {K : Ctx} {ρ : Env} {h : AH} {w : World} {U : Nat → Prop}

theorem binOp_int (o : BinOp) (t : TypeId) (k : IntKind) (a b : Int) (ho : intArith? o = true) : binOp o t (.int k a) (.int k b) = pure (.int k (iop o k a b)) := by
  cases o <;> simp_all [intArith?] <;> simp [binOp, iop, Op.intArith, Op.intBits]

theorem binOp_cmp (o : BinOp) (t : TypeId) (k : IntKind) (a b : Int) (ho : cmp? o = true) : binOp o t (.int k a) (.int k b) = pure (.bool (icmp o a b)) := by
  cases o <;> simp_all [cmp?] <;> simp [binOp, icmp, Op.intCmp]

theorem binOp_eql (t : TypeId) {x y : Value} (hx : (∃ k n, x = .int k n) → ¬ ∃ k n, y = .int k n) (hs : (∃ s, x = .string s) → ¬ ∃ s, y = .string s) (hf : ∀ k n, x ≠ .float k n) (hc : ∀ k n m, x ≠ .complex k n m) :
    binOp .eql t x y = (do pure (.bool (← Op.equal t x y))) := by
  cases x <;> first | exact absurd rfl (hf _ _) | exact absurd rfl (hc _ _ _) | skip
  all_goals cases y <;> first | rfl | exact absurd ⟨_, _, rfl⟩ (hx ⟨_, _, rfl⟩) | exact absurd ⟨_, rfl⟩ (hs ⟨_, rfl⟩)
theorem binOp_neq (t : TypeId) {x y : Value} (hx : (∃ k n, x = .int k n) → ¬ ∃ k n, y = .int k n) (hs : (∃ s, x = .string s) → ¬ ∃ s, y = .string s) (hf : ∀ k n, x ≠ .float k n) (hc : ∀ k n m, x ≠ .complex k n m) :
    binOp .neq t x y = (do pure (.bool (!(← Op.equal t x y)))) := by
  cases x <;> first | exact absurd rfl (hf _ _) | exact absurd rfl (hc _ _ _) | skip
  all_goals cases y <;> first | rfl | exact absurd ⟨_, _, rfl⟩ (hx ⟨_, _, rfl⟩) | exact absurd ⟨_, rfl⟩ (hs ⟨_, rfl⟩)

/-- What 'eq?' bears stands in no float, and a raw value in none of its cases. -/
theorem eq?_shape {d : Nat} {t : TypeId} {x y : AV} {b : BE} (he : eq? K.P K.O h d t x y = .ok b) : (∀ k n, x.ev ρ ≠ .float k n) ∧ (∀ k n m, x.ev ρ ≠ .complex k n m) ∧ ((∃ s, x = .str s) ∨ ∀ s, x.ev ρ ≠ .string s) ∧ ((∃ k e, x = .int k e) ∨ ∀ k n, x.ev ρ ≠ .int k n) ∧
    ((∃ s, x = .str s) → ∃ s, y = .str s) ∧ ((∃ k e, x = .int k e) → ∃ k e, y = .int k e) := by
  cases d with
  | zero => simp [eq?] at he
  | succ d =>
    simp only [eq?] at he
    rw [bind_ok] at he
    obtain ⟨T, hT, he⟩ := he
    split at he <;> first
      | (cases he; done)
      | (refine ⟨?_, ?_, ?_, ?_, ?_, ?_⟩ <;> simp [AV.ev])

theorem stringOp_eql (a b : ByteArray) : Op.stringOp .eql a b = pure (.bool (a.toList == b.toList)) := rfl
theorem stringOp_neq (a b : ByteArray) : Op.stringOp .neq a b = pure (.bool !(a.toList == b.toList)) := rfl

theorem dec_neg (R : Rel K ρ h w) {b : IE} {t1 : Bool} (ht1 : K.O.dec (.cmp .lss b (.lit 0)) = .ok t1) (hn : ¬ t1 = true) : ¬ b.ev ρ < 0 := by
  have h1 : decide (b.ev ρ < 0) = t1 := dec_ev R ht1
  intro hc
  exact hn (h1 ▸ decide_eq_true hc)
theorem dec_zero (R : Rel K ρ h w) {b : IE} {t1 : Bool} (ht1 : K.O.dec (.cmp .eql b (.lit 0)) = .ok t1) (hn : ¬ t1 = true) : ¬ b.ev ρ = 0 := by
  have h1 : (b.ev ρ == 0) = t1 := dec_ev R ht1
  intro hc
  exact hn (h1 ▸ by simp [hc])

theorem wq_binOp (R : Rel K ρ h w) {E : Value → World → Prop} {o : BinOp} {t : TypeId} {x y v : AV} (he : binOp? K.P K.O h o t x y = .ok v) {Q : Value → World → Prop} (hq : Q (v.ev ρ) w) :
    wq K.P K.Ev E (binOp o t (x.ev ρ) (y.ev ρ)) Q w := by
  unfold binOp? at he
  split at he
  · -- integers
    rename_i k a k' b
    simp only [AV.ev]
    split at he
    · -- shl
      simp only [bind_ok] at he
      obtain ⟨t1, ht1, he⟩ := he
      split at he
      · cases he
      · rename_i hn
        rw [pure_ok] at he; subst he
        simp only [AV.ev, int_ev R] at hq
        simp only [binOp, Op.shift, wq_ite]
        rw [if_neg (dec_neg R ht1 hn)]
        exact hq
    · simp only [bind_ok] at he
      obtain ⟨t1, ht1, he⟩ := he
      split at he
      · cases he
      · rename_i hn
        rw [pure_ok] at he; subst he
        simp only [AV.ev, int_ev R] at hq
        simp only [binOp, Op.shift, wq_ite]
        rw [if_neg (dec_neg R ht1 hn)]
        exact hq
    · split at he
      · rename_i hk; subst hk
        simp only [bind_ok] at he
        obtain ⟨t1, ht1, he⟩ := he
        split at he
        · cases he
        · rename_i hn
          rw [pure_ok] at he; subst he
          simp only [AV.ev, int_ev R] at hq
          simp only [binOp, Op.intDiv, wq_ite]
          rw [if_neg (by simp), if_neg (dec_zero R ht1 hn)]
          exact hq
      · cases he
    · split at he
      · rename_i hk; subst hk
        simp only [bind_ok] at he
        obtain ⟨t1, ht1, he⟩ := he
        split at he
        · cases he
        · rename_i hn
          rw [pure_ok] at he; subst he
          simp only [AV.ev, int_ev R] at hq
          simp only [binOp, Op.intDiv, wq_ite]
          rw [if_neg (by simp), if_neg (dec_zero R ht1 hn)]
          exact hq
      · cases he
    · split at he
      · rename_i hk; subst hk
        split at he
        · rename_i ho
          rw [pure_ok] at he; subst he
          simp only [AV.ev, int_ev R] at hq
          rw [binOp_int _ _ _ _ _ ho]; exact hq
        · split at he
          · rename_i ho
            rw [pure_ok] at he; subst he
            simp only [AV.ev] at hq
            rw [bool_ev R] at hq
            rw [binOp_cmp _ _ _ _ _ ho]; exact hq
          · cases he
      · cases he
  · -- strings
    rename_i a b
    simp only [AV.ev]
    split at he
    · rw [pure_ok] at he; subst he; simp only [binOp]; rw [stringOp_eql]; exact hq
    · rw [pure_ok] at he; subst he; simp only [binOp]; rw [stringOp_neq]; exact hq
    · split at he
      · rename_i hle
        rw [pure_ok] at he; subst he
        simp only [binOp, Op.stringOp, wq_ite]
        rw [if_neg (by simp only [IntKind.max, IntKind.bits, IntKind.signed]; simp; omega)]
        exact hq
      · cases he
    · cases he
  · rename_i hni hns
    split at he
    · simp only [bind_ok, pure_ok] at he
      obtain ⟨b, hb, rfl⟩ := he
      obtain ⟨s1, s2, s3, s4, s5, s6⟩ := eq?_shape (ρ := ρ) hb
      have hs : (∃ s, x.ev ρ = .string s) → ¬ ∃ s, y.ev ρ = .string s := by
        rintro ⟨s, e⟩
        rcases s3 with ⟨s', rfl⟩ | h3
        · obtain ⟨s2, rfl⟩ := s5 ⟨_, rfl⟩
          exact absurd rfl (hns _ _ rfl)
        · exact absurd e (h3 _)
      have hi : (∃ k n, x.ev ρ = .int k n) → ¬ ∃ k n, y.ev ρ = .int k n := by
        rintro ⟨k, n, e⟩
        rcases s4 with ⟨k', e', rfl⟩ | h4
        · obtain ⟨k2, e2, rfl⟩ := s6 ⟨_, _, rfl⟩
          exact absurd rfl (hni _ _ _ _ rfl)
        · exact absurd e (h4 _ _)
      rw [binOp_eql t hi hs s1 s2]
      simp only [wq_bind, wq_pure]
      exact wq_equal R hb hq
    · simp only [bind_ok, pure_ok] at he
      obtain ⟨b, hb, c, hc, rfl⟩ := he
      obtain ⟨s1, s2, s3, s4, s5, s6⟩ := eq?_shape (ρ := ρ) hb
      have hs : (∃ s, x.ev ρ = .string s) → ¬ ∃ s, y.ev ρ = .string s := by
        rintro ⟨s, e⟩
        rcases s3 with ⟨s', rfl⟩ | h3
        · obtain ⟨s2, rfl⟩ := s5 ⟨_, rfl⟩
          exact absurd rfl (hns _ _ rfl)
        · exact absurd e (h3 _)
      have hi : (∃ k n, x.ev ρ = .int k n) → ¬ ∃ k n, y.ev ρ = .int k n := by
        rintro ⟨k, n, e⟩
        rcases s4 with ⟨k', e', rfl⟩ | h4
        · obtain ⟨k2, e2, rfl⟩ := s6 ⟨_, _, rfl⟩
          exact absurd rfl (hni _ _ _ _ rfl)
        · exact absurd e (h4 _ _)
      rw [binOp_neq t hi hs s1 s2]
      simp only [wq_bind, wq_pure]
      refine wq_equal R hb ?_
      simp only [AV.ev, notB_ev hc] at hq
      exact hq
    · cases he

theorem binOp?_in (I : Ids K U h) {o : BinOp} {t : TypeId} {x y v : AV} (he : binOp? K.P K.O h o t x y = .ok v) (hx : x.In U) (hy : y.In U) : v.In U := by
  unfold binOp? at he
  split at he
  · split at he
    all_goals try (split at he)
    all_goals try (simp only [bind_ok] at he; obtain ⟨t1, ht1, he⟩ := he)
    all_goals try (split at he)
    all_goals try (split at he)
    all_goals first
      | (cases he; done)
      | (rw [pure_ok] at he; subst he; first | exact int_in I ⟨hx, hy⟩ | exact bool_in ⟨hx, hy⟩)
  · split at he
    all_goals try (split at he)
    all_goals first
      | (cases he; done)
      | (rw [pure_ok] at he; subst he; trivial)
  · split at he
    · simp only [bind_ok, pure_ok] at he
      obtain ⟨b, hb, rfl⟩ := he
      exact eq?_in hb hx hy
    · simp only [bind_ok, pure_ok] at he
      obtain ⟨b, hb, c, hc, rfl⟩ := he
      exact notB_in hc (eq?_in hb hx hy)
    · cases he

/-! ### The guard on nil interface values -/
theorem eqGuard_none {op : BinOp} (ho : ¬ (op = .eql ∨ op = .neq)) (t : TypeId) (x y : Operand) (a b : Value) : eqGuard op t x y a b = pure () := by
  cases op <;> simp_all [eqGuard]

theorem wq_eqGuardIn_nil {E : Value → World → Prop} {t : TypeId} {ms : Array (String × TypeId)} (hm : K.P.underlying t = some (.interface ms)) (hemp : ms.isEmpty = true) {Q : Bool → World → Prop} (hq : Q false w) :
    wq K.P K.Ev E (Op.eqGuardIn Op.maxDepth t .nilIface .nilIface) Q w := by
  obtain ⟨d, hd⟩ : ∃ d, Op.maxDepth = d + 1 := ⟨9999, rfl⟩
  rw [hd]
  simp only [Op.eqGuardIn, wq_bind, wq_underlying hm, wq_pure, hemp, Bool.not_true]
  exact hq

theorem eqGuard_const {op : BinOp} (ho : op = .eql ∨ op = .neq) (t : TypeId) (x y : Operand) (hc : (isConst? x || isConst? y) = true) : eqGuard op t x y .nilIface .nilIface = pure () := by
  rcases ho with rfl | rfl <;> cases x <;> cases y <;> first
    | rfl
    | exact absurd (show false = true from hc) (by simp)

theorem eqGuard_nil {op : BinOp} (ho : op = .eql ∨ op = .neq) (t : TypeId) (x y : Operand) (hc : ¬ (isConst? x || isConst? y) = true) : eqGuard op t x y .nilIface .nilIface = (do
    if ← Op.eqGuardIn Op.maxDepth t .nilIface .nilIface then unsupported (.noEntry "binop/eql: two nil values of an interface type with methods, neither of them the literal nil")) := by
  rcases ho with rfl | rfl <;> cases x <;> cases y <;> first
    | rfl
    | exact absurd rfl hc

theorem eqGuard_agg {op : BinOp} (ho : op = .eql ∨ op = .neq) (t : TypeId) (x y : Operand) (a b : Array Value) : eqGuard op t x y (.agg a) (.agg b) = (do
    if !(← program).eqGuardType (← program).depth t then return
    if ← Op.eqGuardIn Op.maxDepth t (.agg a) (.agg b) then unsupported (.noEntry "binop/eql: two nil values of an interface type with methods, in a part of a struct or an array")) := by
  rcases ho with rfl | rfl <;> rfl

theorem eqGuard_other {op : BinOp} (t : TypeId) (x y : Operand) {a b : Value} (h1 : a = .nilIface → b ≠ .nilIface) (h2 : (∃ c, a = .agg c) → ¬ ∃ c, b = .agg c) : eqGuard op t x y a b = pure () := by
  cases op <;> first
    | rfl
    | (cases a <;> first
        | rfl
        | (cases b <;> first
            | rfl
            | exact absurd rfl (h1 rfl)
            | exact absurd ⟨_, rfl⟩ (h2 ⟨_, rfl⟩)))

theorem wq_eqGuard {E : Value → World → Prop} {op : BinOp} {t : TypeId} {x y : Operand} {a b : AV} (he : eqGuard? K.P op t x y a b = .ok ()) {Q : Unit → World → Prop} (hq : Q () w) :
    wq K.P K.Ev E (eqGuard op t x y (a.ev ρ) (b.ev ρ)) Q w := by
  by_cases ho : op = .eql ∨ op = .neq
  · have hh : (match a, b with
        | .nilIface, .nilIface => if isConst? x || isConst? y then (Except.ok () : M Unit) else
          match K.P.underlying t with
          | some (.interface ms) => if ms.isEmpty then .ok () else .error " two nil values"
          | _ => .error " two nil values"
        | .agg _, .agg _ => if K.P.eqGuardType K.P.depth t then .error " structs with interface values" else .ok ()
        | .raw _, _ => .error " raw"
        | _, .raw _ => .error " raw"
        | .opq _, _ => .error " veiled"
        | _, .opq _ => .error " veiled"
        | _, _ => .ok ()) = .ok () := by rcases ho with rfl | rfl <;> exact he
    split at hh
    · -- two nils
      simp only [AV.ev]
      split at hh
      · rename_i hc
        rw [eqGuard_const ho t x y hc]; exact hq
      · rename_i hc
        rw [eqGuard_nil ho t x y hc]
        split at hh
        · rename_i ms hm
          split at hh
          · rename_i hemp
            simp only [wq_bind]
            exact wq_eqGuardIn_nil hm hemp (by simpa using hq)
          · cases hh
        · cases hh
    · simp only [AV.ev]
      rw [eqGuard_agg ho]
      split at hh
      · cases hh
      · rename_i hg
        simp only [wq_bind, wq_program, wq_ite]
        rw [if_pos (by simpa using hg)]
        exact hq
    all_goals try (cases hh; done)
    rename_i m1 m2 n1 n2 n3 n4
    rw [eqGuard_other]
    · exact hq
    · intro h1 h2
      cases a <;> simp only [AV.ev] at h1 <;> first
        | (cases h1; done)
        | skip
      all_goals cases b <;> simp only [AV.ev] at h2 <;> first
        | (cases h2; done)
        | simp_all
    · rintro ⟨c, h1⟩ ⟨c', h2⟩
      cases a <;> simp only [AV.ev] at h1 <;> first
        | (cases h1; done)
        | skip
      all_goals cases b <;> simp only [AV.ev] at h2 <;> first
        | (cases h2; done)
        | simp_all
  · rw [eqGuard_none ho]; exact hq
end
end Go.Proofs.Ytcpiafgkmakdiaa.SX

/-
  MemoPlaces' row: whatever the key and the size, the law answers true; they read as they did, on every schedule. Conditions: the three listed variables read as the program's text lays them; the row's own (calm: the clock alone may have gone on).
-/
import Derived.Test.YtbnmlanhjpdalaaGreatDoorSxMPproof
set_option maxRecDepth 100000
set_option linter.unusedVariables false
namespace Go.Proofs.YtbnmlanhjpdalaaGreatDoor
open Go.ChangeShapes Go.WideShapes Go.ChangeAt Go.RowKit Go.Conc Go.Proofs.YtbnmlanhjpdalaaGreatDoor.SX

theorem szL0 : (szb 0).all (fun p => p.1.low 100) = true := by kernel_rfl
theorem szL1 : (szb 1).all (fun p => p.1.low 100) = true := by kernel_rfl
theorem szL2 : (szb 2).all (fun p => p.1.low 100) = true := by kernel_rfl
theorem szL3 : (szb 3).all (fun p => p.1.low 100) = true := by kernel_rfl
theorem szL4 : (szb 4).all (fun p => p.1.low 100) = true := by kernel_rfl
theorem szL5 : (szb 5).all (fun p => p.1.low 100) = true := by kernel_rfl
theorem szL6 : (szb 6).all (fun p => p.1.low 100) = true := by kernel_rfl
theorem szL7 : (szb 7).all (fun p => p.1.low 100) = true := by kernel_rfl
theorem szL8 : (szb 8).all (fun p => p.1.low 100) = true := by kernel_rfl
theorem szL9 : (szb 9).all (fun p => p.1.low 100) = true := by kernel_rfl
theorem szL10 : (szb 10).all (fun p => p.1.low 100) = true := by kernel_rfl
theorem szL11 : (szb 11).all (fun p => p.1.low 100) = true := by kernel_rfl
theorem szL12 : (szb 12).all (fun p => p.1.low 100) = true := by kernel_rfl
theorem szL13 : (szb 13).all (fun p => p.1.low 100) = true := by kernel_rfl
theorem szL14 : (szb 14).all (fun p => p.1.low 100) = true := by kernel_rfl
theorem szL15 : (szb 15).all (fun p => p.1.low 100) = true := by kernel_rfl
theorem kbL0 : (kb 0).all (fun p => p.1.low 100) = true := by kernel_rfl
theorem kbL1 : (kb 1).all (fun p => p.1.low 100) = true := by kernel_rfl
theorem kbL2 : (kb 2).all (fun p => p.1.low 100) = true := by kernel_rfl
theorem all_in {l : List (BE × Bool)} (h : l.all (fun p => p.1.low 100) = true) : ∀ p ∈ l, p.1.In Low := fun p hp => BE.low_in (List.all_eq_true.1 h p hp)
theorem szb_in : ∀ t, t < 16 → ∀ p ∈ szb t, p.1.In Low
  | 0, _ => all_in szL0
  | 1, _ => all_in szL1
  | 2, _ => all_in szL2
  | 3, _ => all_in szL3
  | 4, _ => all_in szL4
  | 5, _ => all_in szL5
  | 6, _ => all_in szL6
  | 7, _ => all_in szL7
  | 8, _ => all_in szL8
  | 9, _ => all_in szL9
  | 10, _ => all_in szL10
  | 11, _ => all_in szL11
  | 12, _ => all_in szL12
  | 13, _ => all_in szL13
  | 14, _ => all_in szL14
  | 15, _ => all_in szL15
  | t + 16, h => absurd h (by omega)
theorem kb_in : ∀ c, c < 3 → ∀ p ∈ kb c, p.1.In Low
  | 0, _ => all_in kbL0
  | 1, _ => all_in kbL1
  | 2, _ => all_in kbL2
theorem szv_pow {t : Nat} (h : t ≤ 12) : szv t = .lit (.ofNat (2 ^ t)) := by
  unfold szv
  have : Nat.ble t 12 = true := Nat.ble_eq_true_of_le h
  rw [this]
theorem szb_pow {t : Nat} (h : t ≤ 12) : szb t = [(.cmp .neq (progE t) (refE t), false)] := by
  unfold szb
  have : Nat.ble t 12 = true := Nat.ble_eq_true_of_le h
  rw [this]

theorem key_class {x : Int} (h : x ≤ 9223372036854775807) : ∃ c, c < 3 ∧ ∀ ρ : Env, ρ.i 1 = x → ∀ p ∈ kb c, p.1.ev ρ = p.2 := by
  by_cases h0 : x < 0
  · refine ⟨0, by omega, fun ρ e p hp => ?_⟩
    simp only [kb, List.mem_cons, List.not_mem_nil, or_false] at hp
    rcases hp with rfl | rfl <;> simp only [BE.ev, IE.ev, icmp, v1, e]
    · exact decide_eq_true h0
    · exact decide_eq_false (by omega)
  · by_cases h1 : x = 9223372036854775807
    · refine ⟨2, by omega, fun ρ e p hp => ?_⟩
      simp only [kb, List.mem_cons, List.not_mem_nil, or_false] at hp
      rcases hp with rfl | rfl | rfl | rfl <;> simp only [BE.ev, IE.ev, icmp, v1, topK, e]
      · exact decide_eq_false (by omega)
      · exact decide_eq_true (by omega)
      · rw [beq_iff_eq]; exact h1
      · exact decide_eq_false (by omega)
    · refine ⟨1, by omega, fun ρ e p hp => ?_⟩
      simp only [kb, List.mem_cons, List.not_mem_nil, or_false] at hp
      rcases hp with rfl | rfl | rfl | rfl <;> simp only [BE.ev, IE.ev, icmp, v1, topK, e]
      · exact decide_eq_false (by omega)
      · exact decide_eq_true (by omega)
      · rw [beq_eq_false_iff_ne]; exact h1
      · exact decide_eq_true (by omega)

theorem noPow_ev {x : Int} (h : ∀ t, t ≤ 12 → x ≠ ((2 ^ t : Nat) : Int)) {ρ : Env} (e : ρ.i 2 = x) : ∀ p ∈ noPow, p.1.ev ρ = p.2 := by
  intro p hp
  obtain ⟨t, ht, rfl⟩ := List.mem_map.1 hp
  have ht' : t < 13 := List.mem_range.1 ht
  simp only [BE.ev, IE.ev, icmp, v2, e]
  rw [beq_eq_false_iff_ne]
  exact h t (by omega)

theorem powers_pow {n : Nat} (h : n ∈ powers) : ∃ t, t ≤ 12 ∧ n = 2 ^ t := by
  simp only [powers, List.mem_cons, List.not_mem_nil, or_false] at h
  rcases h with rfl | rfl | rfl | rfl | rfl | rfl | rfl | rfl | rfl | rfl | rfl | rfl | rfl
  · exact ⟨0, by omega, rfl⟩
  · exact ⟨1, by omega, rfl⟩
  · exact ⟨2, by omega, rfl⟩
  · exact ⟨3, by omega, rfl⟩
  · exact ⟨4, by omega, rfl⟩
  · exact ⟨5, by omega, rfl⟩
  · exact ⟨6, by omega, rfl⟩
  · exact ⟨7, by omega, rfl⟩
  · exact ⟨8, by omega, rfl⟩
  · exact ⟨9, by omega, rfl⟩
  · exact ⟨10, by omega, rfl⟩
  · exact ⟨11, by omega, rfl⟩
  · exact ⟨12, by omega, rfl⟩

theorem memo_run {key size : Int} (hk : key ≤ 9223372036854775807) (W : World) (hL : Go.laidMetH Tryz.prog memoLaid W) : GoodFrom 3 #[.int .i64 key, .int .i64 size] W := by
  obtain ⟨c, hc, hkb⟩ := key_class hk
  by_cases hp : ∃ t, t ≤ 12 ∧ size = ((2 ^ t : Nat) : Int)
  · obtain ⟨t, ht, rfl⟩ := hp
    have := mp_good (c := c) (t := t) hc (by omega) W hL (env [key, ((2 ^ t : Nat) : Int)] []) (kb_in c hc) (szb_in t (by omega)) (by rw [szv_pow ht]; trivial) (hkb _ rfl) (fun p hp => by
      rw [szb_pow ht] at hp
      obtain rfl := List.mem_singleton.1 hp
      show (_ != _) = false
      rw [bne_eq_false_iff_eq]
      exact place_same _ ht)
    rw [szv_pow ht] at this
    exact this
  · have hno : ∀ t, t ≤ 12 → size ≠ ((2 ^ t : Nat) : Int) := fun t ht e => hp ⟨t, ht, e⟩
    have iv : v2.In Low := (by decide : (2 : Nat) < 100)
    by_cases h1 : size < 1
    · refine mp_good (c := c) (t := 13) hc (by omega) W hL (env [key, size] []) (kb_in c hc) (szb_in 13 (by omega)) iv (hkb _ rfl) fun p hp => ?_
      rcases List.mem_append.1 hp with hp | hp
      · exact noPow_ev hno rfl p hp
      · obtain rfl := List.mem_singleton.1 hp
        show decide (size ≥ 1) = false
        exact decide_eq_false (by omega)
    · by_cases h2 : size > 4096
      · refine mp_good (c := c) (t := 14) hc (by omega) W hL (env [key, size] []) (kb_in c hc) (szb_in 14 (by omega)) iv (hkb _ rfl) fun p hp => ?_
        rcases List.mem_append.1 hp with hp | hp
        · exact noPow_ev hno rfl p hp
        · simp only [List.mem_cons, List.not_mem_nil, or_false] at hp
          rcases hp with rfl | rfl
          · show decide (size ≥ 1) = true
            exact decide_eq_true (by omega)
          · show decide (size ≤ 4096) = false
            exact decide_eq_false (by omega)
      · have ho : onesZ size ≠ 1 := fun e => by
          obtain ⟨n, rfl⟩ := Int.eq_ofNat_of_zero_le (show 0 ≤ size by omega)
          obtain ⟨t, ht, hn⟩ := powers_pow ((ones_power (n := n) (by omega) (by omega)).1 e)
          exact hno t ht (by rw [hn])
        refine mp_good (c := c) (t := 15) hc (by omega) W hL (env [key, size] []) (kb_in c hc) (szb_in 15 (by omega)) iv (hkb _ rfl) fun p hp => ?_
        rcases List.mem_append.1 hp with hp | hp
        · exact noPow_ev hno rfl p hp
        · simp only [List.mem_cons, List.not_mem_nil, or_false] at hp
          rcases hp with rfl | rfl | rfl | rfl
          · show decide (size ≥ 1) = true
            exact decide_eq_true (by omega)
          · show decide (size ≤ 4096) = true
            exact decide_eq_true (by omega)
          · show (onesZ size == 1) = false
            rw [beq_eq_false_iff_ne]; exact ho
          · show (onesZ size != 1) = true
            rw [bne_iff_ne]; exact ho

/-- The kit's law of a change with the clock gone on, beside one more condition. -/
theorem leaving_time_and {H : Type} {enc : TypeId × Value → H} {a : Assume} {C : Checked} {os : Os} {f : FuncId} {fn : Func} {s : ChangeSpec} {F : Stop.Interp} {conds : List PathCond} {apart fresh handsOn : Bool} {X : World → Array Value → Prop}
    (hX : ∀ (w w' : World) (args : Array Value), w.heap = w'.heap → X w args → X w' args) (own : ownKnob C.prog.godebug = none) (started : os.Started) (hfn : C.prog.funcs[f]? = some fn)
    (witness : ∃ (w : World) (tape : Tape) (i : Input), w.os = os ∧ (w.forCall tape i).Shaped C.prog ∧ i.vars = [] ∧ Input.okWide C.prog (w.forCall tape i) .any w.heap.size f i ∧
      ((s.pre enc C.prog fn conds apart (w.forCall tape i).memory i.args ∧ X (w.forCall tape i).memory i.args) ∧ sizedMet enc C.prog fn (OpenSpec.ofChange s) apart (w.forCall tape i).memory i.args) ∧ a.holds C.prog (lone (Frame.enter C.prog f i.args .normal) [] (w.forCall tape i)))
    (runs : ∀ (W : World) (base : Nat) (args : Array Value) (ds gs : List (DataW H)) (before : List MemPlace),
      (∀ (j : Nat) t v, fn.params[j]? = some t → args[j]? = some v → Value.okWide C.prog W .any base t v) →
      DataW.Whole enc C.prog fn.params.toList s.vars apart W args.toList ds gs before → X W args →
      ∃ M last o w' t', runNT C.prog (M + 1) (solo (G (Frame.enter C.prog f args .normal) []) W) #[] = (.ended o w', t') ∧ runN C.prog M (solo (G (Frame.enter C.prog f args .normal) []) W) = .next last ∧
        step C.prog last = .ended o w' ∧ Conc.Good C.prog (fun v W' => s.post enc C.prog fn apart fresh handsOn false W args v { W' with os := W.os } ∧ ConcM.OsLater W.os W'.os) last o w' t') :
    ReturnsInLeavingWide a C os f .any (fun w args => (s.pre enc C.prog fn conds apart w args ∧ X w args) ∧ sizedMet enc C.prog fn (OpenSpec.ofChange s) apart w args) ((OpenSpec.ofChange s).postWith enc C.prog fn F (outsideKept [.timePasses]) apart fresh handsOn) := by
  refine returnsInLeavingWide_of_good own started witness ?_
  intro w tape i _ _ _ hok hpre hholds
  obtain ⟨_, _, _, fn', hfn', _, _, _, _, hval⟩ := hok
  have e : fn' = fn := Option.some.inj (hfn'.symm.trans hfn)
  subst e
  obtain ⟨⟨⟨ds, gs, before, hw, hc⟩, hx⟩, hz⟩ := hpre
  have hw' := DataW.Whole.of_heap (w' := w.forCall tape i) (by rfl) hw
  obtain ⟨M, last, o, w', t', h1, h2, h3, h4⟩ := runs (w.forCall tape i) w.heap.size i.args ds gs before hval hw' (hX _ _ _ (by rfl) hx)
  obtain ⟨v, e, hp, r1, r2, r3, r4⟩ := h4
  exact ⟨M, last, o, w', t', h1, h2, h3, v, e, postWith_blind (postWith_of_post hp.1 hp.2), r1, r2, r3, r4⟩

/-- The kit's witness in a world of one's own, at the assumption 'calm'. -/
theorem witness_calm {H : Type} {enc : TypeId × Value → H} {C : Checked} {os : Os} {f : FuncId} {fn : Func} {s : ChangeSpec} {conds : List PathCond} {apart : Bool} {X : World → Array Value → Prop} (w0 : World) (args : Array Value) (fuel : Nat) (hos : w0.os = os)
    (hv : (w0.forCall (fun _ _ => 0) ⟨#[], args, []⟩).variablesB C.prog = true)
    (hr : ((w0.forCall (fun _ _ => 0) ⟨#[], args, []⟩).heap.toList.drop C.prog.globals.size).take ((begin C.prog (fun _ _ => 0) default).world.heap.size - C.prog.globals.size) =
      (begin C.prog (fun _ _ => 0) default).world.heap.toList.drop C.prog.globals.size)
    (hok : Input.okWideB C.prog (w0.forCall (fun _ _ => 0) ⟨#[], args, []⟩) f ⟨#[], args, []⟩ = true)
    (hpre : s.preB enc C.prog fn conds apart (w0.forCall (fun _ _ => 0) ⟨#[], args, []⟩).memory args fuel = true)
    (hsz : s.sizedB enc C.prog fn apart (w0.forCall (fun _ _ => 0) ⟨#[], args, []⟩).memory args fuel = true)
    (hx : X (w0.forCall (fun _ _ => 0) ⟨#[], args, []⟩).memory args) :
    ∃ (w : World) (tape : Tape) (i : Input), w.os = os ∧ (w.forCall tape i).Shaped C.prog ∧ i.vars = [] ∧ Input.okWide C.prog (w.forCall tape i) .any w.heap.size f i ∧
      ((s.pre enc C.prog fn conds apart (w.forCall tape i).memory i.args ∧ X (w.forCall tape i).memory i.args) ∧ sizedMet enc C.prog fn (OpenSpec.ofChange s) apart (w.forCall tape i).memory i.args) ∧ ({ calm := true } : Assume).holds C.prog (lone (Frame.enter C.prog f i.args .normal) [] (w.forCall tape i)) :=
  ⟨w0, fun _ _ => 0, ⟨#[], args, []⟩, hos, World.shaped_of_B hv hr, (Input.okWide_of_okWideB (base := 0) hok).1, (Input.okWide_of_okWideB hok).2, ⟨⟨ChangeSpec.pre_of_preB hpre, hx⟩, sizedMet_of_sizedB hsz⟩, by
    simp only [Assume.holds]
    exact ⟨by simp, fun _ _ _ _ => rfl, by simp, by simp, by simp⟩⟩

theorem memoPlaces_lifted (os : Os) (started : os.Started) (H : Type) (enc : TypeId × Value → H) (F : Stop.Interp) :
    ReturnsInLeavingWide { calm := true } Tryz.checked os 3 .any (fun w args => (Rows.memoPlacesSpec.pre enc Tryz.prog Tryz.f3 [] false w args ∧ laidMetH Tryz.prog memoLaid w) ∧ sizedMet enc Tryz.prog Tryz.f3 (OpenSpec.ofChange Rows.memoPlacesSpec) false w args) ((OpenSpec.ofChange Rows.memoPlacesSpec).postWith enc Tryz.prog Tryz.f3 F (outsideKept [.timePasses]) false true false) := by
  refine leaving_time_and (C := Tryz.checked) (X := fun w _ => laidMetH Tryz.prog memoLaid w) (fun _ _ _ hh h => h.of_heap hh) Tryz.own started Tryz.func3 (witness_calm (X := fun w _ => laidMetH Tryz.prog memoLaid w) (laidWorld os) #[.int .i64 0, .int .i64 0] 8 rfl (by kernel_rfl) (by kernel_rfl) (by kernel_rfl) (by kernel_rfl) (by kernel_rfl) (laidWorld_met os _)) ?_
  intro W base args ds gs before hval0 hW hL
  have hval : ∀ (j : Nat) t v, Tryz.f3.params[j]? = some t → args[j]? = some v → Value.okWide Tryz.prog W .any base t v := hval0
  have hW' := hW
  obtain ⟨p, q, hA0, hV, rfl, _, _⟩ := hW
  have hA : DataW.TrodAll enc Tryz.prog W 0 (fun _ => true) true Tryz.f3.params.toList args.toList ds p := hA0
  rw [Tryz.params3] at hA hval
  obtain ⟨v0, v1, d0, d1, p0, p1, rfl, rfl, rfl, t0, t1⟩ := trodAll_two hA
  obtain ⟨rfl, rfl⟩ := trodVars_none hV
  obtain ⟨key, rfl, rfl, rfl, w0⟩ := open_int Tryz.underlying2 (hval 0 2 v0 rfl rfl) t0
  obtain ⟨size, rfl, rfl, rfl, w1⟩ := open_int Tryz.underlying3 (hval 1 3 v1 rfl rfl) t1
  clear hA0 hval0
  simp only [List.append_nil] at hW'
  have hk : key ≤ 9223372036854775807 := by
    have h := w0
    simp only [Lit.wf, Bool.and_eq_true, decide_eq_true_eq] at h
    exact h.2
  obtain ⟨M, last, o, w', t', r1, r2, r3, r4⟩ := memo_run (size := size) hk W hL
  refine ⟨M, last, o, w', t', r1, r2, r3, r4.mono fun r hF => ?_⟩
  obtain ⟨rfl, hk⟩ := hF
  have ew : ({ w' with os := W.os } : World) = w' := by rw [← hk.os]
  rw [ew]
  exact ⟨⟨_, _, _, [], _, [], hW', trodAll_mk1 (shut_bool Tryz.underlying4 true), trodAll_mk2 (shut_int Tryz.underlying2 w0) (shut_int Tryz.underlying3 w1), rfl, kept hk, fun h => by cases h⟩, by rw [hk.os]; exact ConcM.OsLater.refl _⟩

theorem memoPlaces_holds : Rows.MemoPlacesSaid :=
  OpenClaim.holds_of_wide_leaving_time 3 Tryz.f3 rfl rfl rfl rfl rfl rfl rfl ⟨rfl, rfl, rfl, rfl, rfl⟩ rfl rfl rfl rfl rfl (by kernel_rfl) Tryz.func3 (by kernel_rfl)
    (of_decide_eq_true (by kernel_rfl)) (by unfold Func.isWrapper; first | (rw [if_pos (by decide +kernel)]; kernel_rfl) | (rw [if_neg (by decide +kernel)]; exact ⟨rfl, rfl⟩))
    (fun os started H enc _ F => memoPlaces_lifted os started H enc F)
end Go.Proofs.YtbnmlanhjpdalaaGreatDoor

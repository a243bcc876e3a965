/-
  MemoPlaces' row: whatever the key and the size, the law answers true; they read as they did, on every schedule. Conditions: the three listed variables read as the program's text lays them; the row's own (calm: the clock alone may have gone on).
-/
import Derived.Test.YtbnmlanhjpdalaaGreatDoorSxMPf0
import Derived.Test.YtbnmlanhjpdalaaGreatDoorSxMPf1
import Derived.Test.YtbnmlanhjpdalaaGreatDoorSxMPf2
import Derived.Test.YtbnmlanhjpdalaaGreatDoorSxMPz0
import Derived.Test.YtbnmlanhjpdalaaGreatDoorSxMPz1
import Derived.Test.YtbnmlanhjpdalaaGreatDoorSxMPz2
import Derived.Conc.HoldsTime
import Derived.Conc.LeavingOf
import Derived.ProofKit
set_option maxRecDepth 100000
set_option linter.unusedVariables false
namespace Go.Proofs.YtbnmlanhjpdalaaGreatDoor
open Go.ChangeShapes Go.WideShapes Go.ChangeAt Go.RowKit Go.Conc Go.Proofs.YtbnmlanhjpdalaaGreatDoor.SX

section
variable {s : Sub} (hs : s.is = [])
 include hs
theorem IE.ren_id : ∀ (e : IE), e.ren s = e := by
  intro e
  induction e with
  | lit n => rfl
  | var i =>
    show s.i i = _
    unfold Sub.i
    rw [hs]
    rfl
  | op o k a b iha ihb => simp only [IE.ren, iha, ihb]
  | conv k a ih => simp only [IE.ren, ih]
  | plus a b iha ihb => simp only [IE.ren, iha, ihb]
  | times a b iha ihb => simp only [IE.ren, iha, ihb]
  | tn a ih => simp only [IE.ren, ih]
theorem BE.ren_id (e : BE) : e.ren s = e := by
  cases e <;> simp only [BE.ren, IE.ren_id hs]
end

theorem orc_ren {s : Sub} (hs : s.is = []) (hb : s.bs = []) (sm : List FuncId) (l l' : List (BE × Bool)) : OrcRen s (OM sm (l ++ l') isM) (OM [] l isM) := by
  refine ⟨fun p hp => ?_, fun p hp => ?_, fun p hp => ?_⟩
  · rw [BE.ren_id hs]; exact List.mem_append_left _ hp
  · rw [IE.ren_id hs, IE.ren_id hs]; exact hp
  · have hp' : p ∈ memM := hp
    show (p.1.ren s, p.2.ren s) ∈ memM
    rcases List.mem_cons.1 hp' with rfl | hp2
    · exact List.mem_cons_self ..
    · obtain ⟨k, hk, rfl⟩ := List.mem_map.1 hp2
      exact List.mem_cons_of_mem _ (List.mem_map.2 ⟨k, hk, rfl⟩)

theorem firsts : ∀ c t, c < 3 → t < 16 → First c t := by
  intro c t hc ht
  have h3 : c = 0 ∨ c = 1 ∨ c = 2 := by omega
  have h16 : t = 0 ∨ t = 1 ∨ t = 2 ∨ t = 3 ∨ t = 4 ∨ t = 5 ∨ t = 6 ∨ t = 7 ∨ t = 8 ∨ t = 9 ∨ t = 10 ∨ t = 11 ∨ t = 12 ∨ t = 13 ∨ t = 14 ∨ t = 15 := by omega
  rcases h3 with rfl | rfl | rfl
  · rcases h16 with rfl | rfl | rfl | rfl | rfl | rfl | rfl | rfl | rfl | rfl | rfl | rfl | rfl | rfl | rfl | rfl
    · exact mp0_0
    · exact mp0_1
    · exact mp0_2
    · exact mp0_3
    · exact mp0_4
    · exact mp0_5
    · exact mp0_6
    · exact mp0_7
    · exact mp0_8
    · exact mp0_9
    · exact mp0_10
    · exact mp0_11
    · exact mp0_12
    · exact mp0_13
    · exact mp0_14
    · exact mp0_15
  · rcases h16 with rfl | rfl | rfl | rfl | rfl | rfl | rfl | rfl | rfl | rfl | rfl | rfl | rfl | rfl | rfl | rfl
    · exact mp1_0
    · exact mp1_1
    · exact mp1_2
    · exact mp1_3
    · exact mp1_4
    · exact mp1_5
    · exact mp1_6
    · exact mp1_7
    · exact mp1_8
    · exact mp1_9
    · exact mp1_10
    · exact mp1_11
    · exact mp1_12
    · exact mp1_13
    · exact mp1_14
    · exact mp1_15
  · rcases h16 with rfl | rfl | rfl | rfl | rfl | rfl | rfl | rfl | rfl | rfl | rfl | rfl | rfl | rfl | rfl | rfl
    · exact mp2_0
    · exact mp2_1
    · exact mp2_2
    · exact mp2_3
    · exact mp2_4
    · exact mp2_5
    · exact mp2_6
    · exact mp2_7
    · exact mp2_8
    · exact mp2_9
    · exact mp2_10
    · exact mp2_11
    · exact mp2_12
    · exact mp2_13
    · exact mp2_14
    · exact mp2_15
theorem seconds : ∀ c, c < 3 → mpZ c = true := by
  intro c hc
  have h3 : c = 0 ∨ c = 1 ∨ c = 2 := by omega
  rcases h3 with rfl | rfl | rfl
  · exact mpZ0
  · exact mpZ1
  · exact mpZ2

theorem enters : ∀ t, t < 16 → isOk (enterA Tryz.prog 3 [.int .i64 v1, .int .i64 (szv t)] .normal) = true := by
  intro t _
  kernel_rfl

theorem pow_le : ∀ t, t ≤ 12 → 1 ≤ 2 ^ t ∧ 2 ^ t ≤ 4096 := by
  intro t ht
  have : t = 0 ∨ t = 1 ∨ t = 2 ∨ t = 3 ∨ t = 4 ∨ t = 5 ∨ t = 6 ∨ t = 7 ∨ t = 8 ∨ t = 9 ∨ t = 10 ∨ t = 11 ∨ t = 12 := by omega
  rcases this with rfl | rfl | rfl | rfl | rfl | rfl | rfl | rfl | rfl | rfl | rfl | rfl | rfl <;> decide
theorem pow_ones (t : Nat) (ht : t ≤ 12) : onesZ (.ofNat (2 ^ t)) = 1 := by
  refine (ones_power (pow_le t ht).1 (pow_le t ht).2).2 ?_
  have : t = 0 ∨ t = 1 ∨ t = 2 ∨ t = 3 ∨ t = 4 ∨ t = 5 ∨ t = 6 ∨ t = 7 ∨ t = 8 ∨ t = 9 ∨ t = 10 ∨ t = 11 ∨ t = 12 := by omega
  rcases this with rfl | rfl | rfl | rfl | rfl | rfl | rfl | rfl | rfl | rfl | rfl | rfl | rfl <;> decide
theorem lowO0 : (OM [] (kb 0) isM).low 100 = true := by kernel_rfl
theorem lowO1 : (OM [] (kb 1) isM).low 100 = true := by kernel_rfl
theorem lowO2 : (OM [] (kb 2) isM).low 100 = true := by kernel_rfl

theorem szs_ok {O : Orc} {own : Nat → Prop} {Ev : Event → Prop} {lock : Prop} {still : Nat → Nat → Prop} {main : Bool} (Gd : (⟨Tryz.prog, O, own, Ev, lock, still⟩ : Ctx).Good) (t : Nat) : SumOk ⟨Tryz.prog, O, own, Ev, lock, still⟩ main (szs t) := by
  unfold szs
  cases h : (Nat.ble 2 t && Nat.ble t 12) with
  | false => exact noSums_ok
  | true =>
    rw [Bool.and_eq_true] at h
    have ht : t ≤ 12 := Nat.le_of_ble_eq_true h.2
    exact mnSum_ok Gd (pow_le t ht).1 (pow_le t ht).2 (pow_ones t ht)

/-- From facts to one good run. -/
theorem mp_good {c t : Nat} (hc : c < 3) (ht : t < 16) (W : World) (hL : Go.laidMetH Tryz.prog memoLaid W) (ρ : Env) (h1 : ∀ p ∈ kb c, p.1.In Low) (h2 : ∀ p ∈ szb t, p.1.In Low) (h3 : (szv t).In Low) (e1 : ∀ p ∈ kb c, p.1.ev ρ = p.2) (e2 : ∀ p ∈ szb t, p.1.ev ρ = p.2) :
    GoodFrom 3 (AV.evs ρ [.int .i64 v1, .int .i64 (szv t)]).toArray W := by
  obtain ⟨f1, f2⟩ := firsts c t hc ht
  have hz := seconds c hc
  have iv : v1.In Low := (by decide : (1 : Nat) < 100)
  have hi : ∀ p ∈ isM, p.1.In Low ∧ p.2.In Low := fun p hp => by
    obtain rfl := List.mem_singleton.1 hp
    exact ⟨⟨⟨⟨iv, trivial⟩, trivial⟩, trivial⟩, trivial⟩
  have he : ∀ p ∈ isM, p.1.ev ρ = p.2.ev ρ := fun p hp => by
    obtain rfl := List.mem_singleton.1 hp
    exact place_same ρ (Nat.zero_le _)
  refine good_run (sm := [7]) (bs := kb c ++ szb t) (is := isM) (sm' := []) (bs' := kb c) (is' := isM) (sum' := noSums) (sound _ _ _ fun _ _ _ _ _ _ => noSums_ok) (mpE t (enters t ht)) W hL ρ ⟨iv, h3, trivial⟩
    (fun p hp => (List.mem_append.1 hp).elim (h1 p) (h2 p)) hi (fun p hp => (List.mem_append.1 hp).elim (e1 p) (e2 p)) he ?_
  intro m T I
  obtain ⟨N, m1, T1, r1, I1⟩ := cchunk_ok (sound [7] (kb c ++ szb t) isM (sum := szs t) fun _ _ _ _ _ G => szs_ok G t) (csOk_ok f1) I
  have lowO : (OM [] (kb c) isM).low 100 = true := by
    have hc3 : c = 0 ∨ c = 1 ∨ c = 2 := by omega
    rcases hc3 with rfl | rfl | rfl
    · exact lowO0
    · exact lowO1
    · exact lowO2
  have I2 := cinv_ren f2 (orc_ren rfl rfl [7] (kb c) (szb t)) mpLow rfl lowO I1
  obtain ⟨N2, m2, T2, st2, f, r2, I3, r3⟩ := cruns_ok (sound [] (kb c) isM fun _ _ _ _ _ _ => noSums_ok) (.last _ _ _ hz) I2
  exact ⟨N + N2, m2, T2, st2, f, runNT_then r1 r2, I3, r3⟩
end Go.Proofs.YtbnmlanhjpdalaaGreatDoor

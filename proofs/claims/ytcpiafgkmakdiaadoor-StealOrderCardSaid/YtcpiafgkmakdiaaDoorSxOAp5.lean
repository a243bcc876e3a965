/-
  treadleref00.Bag.apartInts, of a bag that holds two lists of one length, each in an array of its own: it answers true. Conditions: none.
-/
import Derived.Test.YtcpiafgkmakdiaaDoorSxOAp4
set_option maxRecDepth 100000
set_option linter.unusedVariables false
set_option linter.unusedSimpArgs false
namespace Go.Proofs.YtcpiafgkmakdiaaDoor
open Go.Proofs.YtcpiafgkmakdiaaDoor.SX Go.Conc

section
variable {K : Ctx} {main : Bool} {cs : List Frame} {P : Par}

theorem vecEq {w : World} {e L : Nat} {xs ys : List Value} {c : Nat} (h : VecAt Tryd.prog w e L xs c) (he : xs = ys) : VecAt Tryd.prog w e L ys c := he ▸ h
theorem vecKeep {w w' : World} {own : Nat → Prop} (kp : Keeps own w w') {e L : Nat} {xs : List Value} {c : Nat} (h : VecAt Tryd.prog w e L xs c) (hn : ¬ own L) : VecAt Tryd.prog w' e L xs c := h.keep kp hn

/-- Where the second loop begins. -/
def Start2 (P : Par) (q : Nat) (st : Nat → Value) (fr : Frame) : Prop := match P.z with
  | false => FrRel Tryd.prog (e2 P q P.n (P.C q) (P.c q) (marksL q P.n) 0 0) (apFr st (l2 nilS (.raw nilV) (v 50)) td2) fr
  | true => FrRel Tryd.prog (e2n P q) (apFr st (l2n nilS (.raw nilV) (v 50)) td2) fr

/-- The second and the third loop. -/
theorem ap_late (U : Outer K) (hP : P.Ok K) {w5 : World} (R : Room K w5) (hb : BagAt P w5) (hA5 : P.A < w5.heap.size) (hB5 : P.B < w5.heap.size) (vAB : P.z = false → VecAt Tryd.prog w5 3 P.A (marksL 0 P.n) P.ca ∧ VecAt Tryd.prog w5 3 P.B (marksL 1 P.n) P.cb) {st : Nat → Value} {fr : Frame} (hf : Start2 P 0 st fr) :
    Walk Tryd.prog main (DK K) (fun g' w' => Keeps (fun x => w5.heap.size ≤ x ∨ x = P.A ∨ x = P.B) w5 w' ∧ ∃ st fr', (∀ ρ, FrRel Tryd.prog ρ (apFin st) fr') ∧ g' = G fr' cs) 0 (G fr cs) w5 := by
  have hn := hP.n2
  have hg5 := hb.ltG
  have hr5 := hb.ltR
  have hf0 : Walk Tryd.prog main (DK K) (fun g' w' => Keeps (ownZ P 0 w5.heap.size) w5 w' ∧ ∃ X cx OB co, w5.heap.size ≤ X ∧ (OB = P.C 0 ∨ w5.heap.size ≤ OB) ∧ At2 P 0 (P.n + 1) w5.heap.size (slV X 1 cx) nilV X cx [slV OB (P.n + 1) co] OB cs g' w') 0 (G fr cs) w5 := by
    unfold Start2 at hf
    split at hf
    · rename_i hz
      exact first2a U hP hz R hb (vAB hz).1 hf
    · rename_i hz
      exact first2an U hP hz R hb hf
  refine (Walk.trans (m := 0) (fun g6 w6 h6 => ?_) hf0).any
  obtain ⟨kp6, X, cx, OB, co, hX, hOB, H6⟩ := h6
  refine (Walk.trans (m := 0) (fun g7 w7 h7 => ?_) (loop2 (main := main) U hP (q := 0) (by omega) R hg5 hr5 69 (P.n + 1) (by omega) (by omega) (Nat.le_refl _) kp6 H6)).any
  obtain ⟨kp7, H7⟩ := h7
  obtain ⟨L7, cap7, st7, fr7, hL7, hXL7, vL7, hf7, rfl⟩ := H7.ex
  have R7 := R.keep kp7.size
  have vB7 : P.z = false → VecAt Tryd.prog w7 3 P.B (marksL 1 P.n) P.cb := fun hz => vecKeep kp7 (vAB hz).2 (fun x => x.elim (fun h => absurd hB5 (Nat.not_lt.2 h)) fun h => hP.ab h.symm)
  -- the end of the second loop's first turn
  have hf7'' : FrRel Tryd.prog (mkE [(2, P.n), (4, (P.n + 70 : Nat)), (5, cap7), (13, P.ci), (22, P.ca), (32, P.cb)] [(10, L7), (11, P.BG), (12, P.IR), (20, P.A), (30, P.B)] []) (apFr st7 (l2 (.raw (slV X 1 cx)) nilS (.lit 0)) td2) fr7 := hf7.retell rfl rfl
  have W8 := pieceN (K := K) (main := main) (cs := cs) U R7 (b2 P.z st7 (slV X 1 cx)) (low2c st7 (slV X 1 cx)) (oB2 P.z) hf7'' (frs := []) trivial (fun p hp => by
      obtain rfl := List.mem_singleton.1 hp
      show decide (((P.n + 70 : Nat) : Int) < (l70 P.z).ev _) = false
      rw [l70_ev hP rfl]
      exact decide_eq_false (by omega)) (fun p hp => by cases hp) (fun p hp => by
      simp only [List.mem_cons, List.not_mem_nil, or_false] at hp
      rcases hp with rfl | rfl | rfl
      · exact H7.bag.f
      · exact m0_ev rfl rfl rfl rfl H7.bag.r0
      · exact m1_ev rfl rfl rfl rfl H7.bag.r1)
  refine (Walk.trans (m := 0) (fun g8 w8 hd => ?_) W8).any
  obtain ⟨ρ8, c8, fr8, frs8, C8⟩ := hd
  have hh8 := C8.alone.2
  have f8 : findB 101 c8.h.hp = some (.row [slc 10 (v 4) (v 5)] 22 (.var 101)) := by rw [hh8]; rfl
  have vQ8 := vec_of_row C8.rel f8
  have o8 : w7.heap.size ≤ ρ8.b 101 := C8.rel.own _ _ f8 rfl
  have x4 : ρ8.i 4 = (P.n + 70 : Nat) := C8.agree.i 4 (by decide)
  have x5 : ρ8.i 5 = cap7 := C8.agree.i 5 (by decide)
  have y10 : ρ8.b 10 = L7 := C8.agree.b 10 (by decide)
  have y11 : ρ8.b 11 = P.BG := C8.agree.b 11 (by decide)
  have y30 : ρ8.b 30 = P.B := C8.agree.b 30 (by decide)
  have x2 : ρ8.i 2 = P.n := C8.agree.i 2 (by decide)
  have x32 : ρ8.i 32 = P.cb := C8.agree.i 32 (by decide)
  have es8 : AV.evs ρ8 [slc 10 (v 4) (v 5)] = [slV L7 (P.n + 70) cap7] := by
    simp only [slc, AV.evs, AV.ev, Option.map_some, AA.ev, BR.ev, IE.ev, v, x4, x5, y10, slV]
    rfl
  rw [es8] at vQ8
  have hP8 : (K.sub (OO (bB2 P.z) [] [mBag, m0 P.z, m1 P.z]) (fun n => w7.heap.size ≤ n) fun _ _ => False).P = Tryd.prog := U.prog
  rw [hP8] at vQ8
  have R8 := R7.keep C8.keeps.size
  have lt7 : ∀ {b : Nat}, b < w7.heap.size → ¬ w7.heap.size ≤ b := fun h => Nat.not_le.2 h
  have vA8 : ArrAt w8 (P.C 0) 0 (marksL 0 P.n) := fun k y hk => H7.va.keep C8.keeps (lt7 (H7.va.lt hk)) k y hk
  have vO8 := H7.vo.keep C8.keeps (lt7 (H7.vo.lt (marksL_get (k := 0) (by omega))))
  have vX8 := vecKeep C8.keeps H7.vx (lt7 H7.vx.lt)
  have vL8 := vecKeep C8.keeps vL7 (lt7 vL7.lt)
  have vB8 : P.z = false → VecAt Tryd.prog w8 3 P.B (marksL 1 P.n) P.cb := fun hz => vecKeep C8.keeps (vB7 hz) (lt7 (vB7 hz).lt)
  have hb8 : BagAt P w8 := H7.bag.keep C8.keeps (lt7 H7.bag.ltG) (lt7 H7.bag.ltR)
  have hz7 : w5.heap.size ≤ w7.heap.size := kp7.size
  have hz8 : w7.heap.size ≤ w8.heap.size := C8.keeps.size
  have kX : K.own X := R.new X hX
  have e81 : g8 = G fr8 cs := C8.alone.1
  have hf9 : Walk Tryd.prog main (DK K) (fun g' w' => Keeps (fun x => ownZ P 1 w8.heap.size x ∨ x = X) w8 w' ∧ ∃ X' cx OB' co', (X' = X ∨ w8.heap.size ≤ X') ∧ (OB' = P.C 1 ∨ w8.heap.size ≤ OB') ∧ At2 P 1 (P.n + 1) w8.heap.size (slV X' 2 cx) (slV (ρ8.b 101) 1 (ρ8.i 101).toNat) X' cx [slV OB (P.n + 1) co, slV OB' (P.n + 1) co'] OB' cs g' w') 0 g8 w8 := by
    rw [e81]
    cases hz : P.z with
    | false =>
      obtain ⟨st8, _, h82⟩ := toldN U (l2 sX (.raw (slV (ρ8.b 101) 1 (ρ8.i 101).toNat)) (v 50)) C8
      refine first2b U hP hz R8 hb8 (vB8 hz) vX8 kX (fun _ => stillless R hX) (by omega) (by omega) (st := st8) (h82 _ ?_)
      rw [hz]
      simp only [List.map_cons, List.map_nil, l2, sX, slc, hdr1, lenE, AV.evs, i64, ptr0, AV.ev, v, IE.ev, Option.map_some, AA.ev, BR.ev, x2, x32, y11, y30]
      simp only [e2b, mkE]
      rfl
    | true =>
      obtain ⟨st8, _, h82⟩ := toldN U (l2n sX (.raw (slV (ρ8.b 101) 1 (ρ8.i 101).toNat)) (v 50)) C8
      refine first2bn U hP hz R8 hb8 vX8 kX (fun _ => stillless R hX) (by omega) (by omega) (st := st8) (h82 _ ?_)
      rw [hz]
      simp only [List.map_cons, List.map_nil, l2n, sX, nilS, slc, hdr1, lenE, AV.evs, i64, ptr0, AV.ev, v, IE.ev, Option.map_some, AA.ev, BR.ev, x2, x32, y11, y30]
      simp only [e2bn, mkE]
      rfl
  have x101 : (IE.var 101).ev ρ8 = ρ8.i 101 := rfl
  rw [x101] at vQ8
  generalize hQ : ρ8.b 101 = Q at *
  generalize hcq : (ρ8.i 101).toNat = cq at *
  refine (Walk.trans (m := 0) (fun g9 w9 h9 => ?_) hf9).any
  obtain ⟨kp9, X', cx', OB', co', hX', hOB', H9⟩ := h9
  have hg8 := hb8.ltG
  have hr8 := hb8.ltR
  refine (Walk.trans (m := 0) (fun g10 w10 h10 => ?_) (loop2 (main := main) U hP (q := 1) (by omega) R8 hg8 hr8 69 (P.n + 1) (by omega) (by omega) kp9.size (Keeps.refl _ _) H9)).any
  obtain ⟨kp10, H10⟩ := h10
  obtain ⟨L10, cap10, st10, fr10, hL10, hXL10, vL10, hf10, rfl⟩ := H10.ex
  have R10 := (R8.keep kp9.size).keep kp10.size
  -- what is not touched meanwhile
  have hC0 : P.C 0 = P.A := rfl
  have hC1 : P.C 1 = P.B := rfl
  rw [hC0] at hOB hL7
  have nX : ∀ {b : Nat} {z : Int}, w8.cell? ⟨b, 0, none⟩ = some (.int .i64 z) → b ≠ X := fun h => cell_ne h (vX8.arr 0 _ rfl) (by intro e; cases e)
  have nO : OB ≠ X := nX (by have := vO8 0 _ (marksL_get (by omega)); exact this)
  have nL : L7 ≠ X := nX (vL8.arr 0 _ (marksL_get (by omega)))
  have ltA : P.A < w8.heap.size := by omega
  have ltO : OB < w8.heap.size := vO8.lt (marksL_get (k := 0) (by omega))
  have ltL : L7 < w8.heap.size := vL8.lt
  have ltQ : Q < w8.heap.size := vQ8.lt
  have ltX : X < w7.heap.size := H7.vx.lt
  have keep : ∀ {b : Nat}, b < w8.heap.size → b ≠ P.B → b ≠ X → (¬ (ownZ P 1 w8.heap.size b ∨ b = X)) ∧ ¬ ownZ P 1 w8.heap.size b := fun h1 h2 h3 =>
    have h : ¬ ownZ P 1 w8.heap.size _ := fun x => x.elim (fun h => absurd h1 (Nat.not_lt.2 h)) h2
    ⟨fun x => x.elim h h3, h⟩
  have hAB := hP.ab
  have kO := keep ltO (fun e => by rcases hOB with h | h <;> omega) nO
  have kL := keep ltL (fun e => by rcases hL7 with h | h <;> omega) nL
  have kQ := keep ltQ (by omega) (by omega)
  have vA10 : ArrAt w10 P.A 0 (marksL 0 P.n) := fun k y hk => by
    have hk' : k < P.n := by
      have := (List.getElem?_eq_some_iff.1 hk).1
      rwa [marksL_length] at this
    have hzf : P.z = false := by
      cases hz : P.z with
      | true => have := hP.n0 hz; omega
      | false => rfl
    have nA : P.A ≠ X := nX (by have := vA8 0 _ (marksL_get (by omega)); exact this)
    have kA := keep ltA (hP.ab) nA
    exact (ArrAt.keep (ArrAt.keep vA8 kp9 kA.1) kp10 kA.2) k y hk
  have vO10 := (vO8.keep kp9 kO.1).keep kp10 kO.2
  have vL7' := vecKeep kp10 (vecKeep kp9 vL8 kL.1) kL.2
  have vQ10 := vecKeep kp10 (vecKeep kp9 vQ8 kQ.1) kQ.2
  have hQX' : Q ≠ X' := fun e => by rcases hX' with h | h <;> omega
  -- the end of the second loop
  have hQ5 : w5.heap.size ≤ Q := by omega
  have hf10' : FrRel Tryd.prog (mkE [(2, P.n), (4, (P.n + 70 : Nat)), (5, cap10), (13, P.ci), (22, P.ca), (32, P.cb), (35, cq)] [(10, L10), (11, P.BG), (12, P.IR), (20, P.A), (30, P.B), (17, Q)] []) (apFr st10 (l2 (.raw (slV X' 2 cx')) (slc 17 (.lit 1) (v 35)) (.lit 1)) td2) fr10 := hf10.retell rfl rfl
  have W11 := pieceB (K := K) (main := main) (cs := cs) U R10 (own := fun x => w10.heap.size ≤ x ∨ x = Q) (fun _ _ => False) (fun x hx => hx.elim (R10.new x) fun e => R.new x (by omega)) (fun x hx => .inl hx) (b3 P.z st10 (slV L7 (P.n + 70) cap7) (slV X' 2 cx')) (low2d st10 _ _) (oB2 P.z) hf10' (frs := []) trivial (fun p hp => by
      obtain rfl := List.mem_singleton.1 hp
      show decide (((P.n + 70 : Nat) : Int) < (l70 P.z).ev _) = false
      rw [l70_ev hP rfl]
      exact decide_eq_false (by omega)) (fun p hp => by cases hp) (fun p hp => by
      have hnot : ∀ {b : Nat}, b < w10.heap.size → b ≠ Q → ¬ (w10.heap.size ≤ b ∨ b = Q) := fun h1 h2 x => x.elim (fun h => absurd h1 (Nat.not_lt.2 h)) h2
      simp only [List.mem_cons, List.not_mem_nil, or_false] at hp
      rcases hp with rfl | rfl | rfl
      · exact ⟨hnot H10.bag.ltG (by show P.BG ≠ Q; omega), H10.bag.f⟩
      · exact ⟨hnot H10.bag.ltR (by show P.IR ≠ Q; omega), m0_ev rfl rfl rfl rfl H10.bag.r0⟩
      · exact ⟨hnot H10.bag.ltR (by show P.IR ≠ Q; omega), m1_ev rfl rfl rfl rfl H10.bag.r1⟩)
      (fun p hp => by
        obtain rfl := List.mem_singleton.1 hp
        obtain ⟨arr, rest, inf, q1, q2, q3, q4⟩ := vQ10.ex
        refine ⟨_, q1, .inl ⟨arr, rfl, rest, inf, q3, q2, ?_⟩⟩
        rw [q4]
        rfl)
      (fun p hp => by obtain rfl := List.mem_singleton.1 hp; exact .inr rfl) (by simp) (fun p hp k hk => by
        obtain rfl := List.mem_singleton.1 hp
        exact hk.elim (fun x => absurd x (stillless R hQ5)) False.elim) (fun b k h => h.elim)
  refine (Walk.trans (m := 0) (fun g11 w11 hd => ?_) W11).any
  obtain ⟨ρb, cb', frb, frsb, C⟩ := hd
  obtain ⟨st11, h111, h112⟩ := toldN U (l3 (v 50) (v 60)) C
  have hh := C.alone.2
  have fb : findB 101 cb'.h.hp = some (.row [.raw (slV L7 (P.n + 70) cap7), slc 10 (v 4) (v 5)] 22 (.var 101)) := by rw [hh]; rfl
  have vQ := vec_of_row C.rel fb
  have z4 : ρb.i 4 = (P.n + 70 : Nat) := C.agree.i 4 (by decide)
  have z5 : ρb.i 5 = cap10 := C.agree.i 5 (by decide)
  have u10 : ρb.b 10 = L10 := C.agree.b 10 (by decide)
  have u11 : ρb.b 11 = P.BG := C.agree.b 11 (by decide)
  have esb : AV.evs ρb [.raw (slV L7 (P.n + 70) cap7), slc 10 (v 4) (v 5)] = [slV L7 (P.n + 70) cap7, slV L10 (P.n + 70) cap10] := by
    simp only [slc, AV.evs, AV.ev, Option.map_some, AA.ev, BR.ev, IE.ev, v, z4, z5, u10, slV]
    rfl
  rw [esb] at vQ
  have hPb : (K.sub (OO (bB2 P.z) [] [mBag, m0 P.z, m1 P.z]) (fun x => w10.heap.size ≤ x ∨ x = Q) fun _ _ => False).P = Tryd.prog := U.prog
  rw [hPb] at vQ
  have nQ : ∀ {b : Nat} {z : Int}, w10.cell? ⟨b, 0, none⟩ = some (.int .i64 z) → b ≠ Q := fun h => cell_ne h (vQ10.arr 0 _ rfl) (by intro e; cases e)
  have kk : ∀ {b m q : Nat}, ArrAt w10 b 0 (marksL q (m + 1)) → ArrAt w11 b 0 (marksL q (m + 1)) := fun {b m q} h => by
    have h0 := h 0 _ (marksL_get (Nat.succ_pos m))
    exact h.keep C.keeps fun x => x.elim (fun hx => absurd (cellLt h0) (Nat.not_lt.2 hx)) (nQ h0)
  have kn : ∀ {b q : Nat}, ArrAt w10 b 0 (marksL q P.n) → ArrAt w11 b 0 (marksL q P.n) := fun {b q} h => by
    rcases Nat.eq_zero_or_pos P.n with h0 | h0
    · rw [h0]; intro k y hk; simp [marksL] at hk
    · obtain ⟨m, hm⟩ : ∃ m, P.n = m + 1 := ⟨P.n - 1, by omega⟩
      rw [hm] at h ⊢
      exact kk h
  have vX11 := vecKeep C.keeps H10.vx (fun x => x.elim (fun hx => absurd H10.vx.lt (Nat.not_lt.2 hx)) fun e => hQX' e.symm)
  have hb11 : BagAt P w11 := H10.bag.keep C.keeps (fun x => x.elim (fun hx => absurd H10.bag.ltG (Nat.not_lt.2 hx)) (by omega)) (fun x => x.elim (fun hx => absurd H10.bag.ltR (Nat.not_lt.2 hx)) (by omega))
  have T3 : Third P ⟨X', cx', ρb.b 101, (ρb.i 101).toNat, fun q => match q with | 0 => OB | _ => OB', fun q => match q with | 0 => co | _ => co', fun q => match q with | 0 => L7 | _ => L10, fun q => match q with | 0 => cap7 | _ => cap10⟩ w11 := by
    refine ⟨hb11, fun q hq => ?_, fun q hq => ?_, fun q hq => ?_, vX11.arr, vQ.arr⟩
    · rcases two_cases hq with rfl | rfl
      · exact kn vA10
      · exact kn H10.va
    · rcases two_cases hq with rfl | rfl
      · exact kk vO10
      · exact kk H10.vo
    · rcases two_cases hq with rfl | rfl
      · exact kk vL7'.arr
      · exact kk vL10.arr
  have R11 := R10.keep C.keeps.size
  have H11 : At3 P ⟨X', cx', ρb.b 101, (ρb.i 101).toNat, fun q => match q with | 0 => OB | _ => OB', fun q => match q with | 0 => co | _ => co', fun q => match q with | 0 => L7 | _ => L10, fun q => match q with | 0 => cap7 | _ => cap10⟩ 0 0 cs g11 w11 := ⟨T3, st11, frb, h112 _ (by
    simp only [List.map_cons, List.map_nil, l3, slc, AV.evs, i64, ptr0, AV.ev, v, IE.ev, Option.map_some, AA.ev, BR.ev, u11]
    simp only [e3, mkE, slV]
    rfl), h111⟩
  refine (third_end (main := main) U hP R11 H11).weaken fun g12 w12 h12 => ⟨?_, h12.2⟩
  have s7 : w5.heap.size ≤ w8.heap.size := Nat.le_trans hz7 hz8
  have s9 : w5.heap.size ≤ w10.heap.size := Nat.le_trans s7 (Nat.le_trans kp9.size kp10.size)
  have t1 : Keeps (fun x => w5.heap.size ≤ x ∨ x = P.A ∨ x = P.B) w5 w7 := kp7.mono fun x hx => hx.imp id fun h => .inl h
  have t2 : Keeps (fun x => w5.heap.size ≤ x ∨ x = P.A ∨ x = P.B) w7 w8 := C8.keeps.mono fun x hx => .inl (Nat.le_trans hz7 hx)
  have t3 : Keeps (fun x => w5.heap.size ≤ x ∨ x = P.A ∨ x = P.B) w8 w9 := kp9.mono fun x hx => hx.elim (fun hx => hx.elim (fun h => .inl (Nat.le_trans s7 h)) fun h => .inr (.inr h)) fun e => .inl (by omega)
  have t4 : Keeps (fun x => w5.heap.size ≤ x ∨ x = P.A ∨ x = P.B) w9 w10 := kp10.mono fun x hx => hx.elim (fun h => .inl (Nat.le_trans s7 h)) fun h => .inr (.inr h)
  have t5 : Keeps (fun x => w5.heap.size ≤ x ∨ x = P.A ∨ x = P.B) w10 w11 := C.keeps.mono fun x hx => hx.elim (fun h => .inl (Nat.le_trans s9 h)) fun e => .inl (by omega)
  have t6 : Keeps (fun x => w5.heap.size ≤ x ∨ x = P.A ∨ x = P.B) w11 w12 := h12.1.mono fun x hx => .inl (Nat.le_trans s9 (Nat.le_trans C.keeps.size hx))
  exact ((((t1.trans t2).trans t3).trans t4).trans t5).trans t6

theorem ap_call (U : Outer K) (hP : P.Ok K) (hz : P.z = false) {w0 : World} (R : Room K w0) (hb : BagAt P w0) {oA oB : Nat → Int} (vA : VecAt Tryd.prog w0 3 P.A (lst1 P.n 0 0 oA) P.ca) (vB : VecAt Tryd.prog w0 3 P.B (lst1 P.n 1 0 oB) P.cb) {st : Nat → Value} {fr : Frame} (hf : ∀ ρ : Env, ρ.b 11 = P.BG → FrRel Tryd.prog ρ (apIn st) fr) :
    Walk Tryd.prog main (DK K) (fun g' w' => Keeps (fun x => w0.heap.size ≤ x ∨ x = P.A ∨ x = P.B) w0 w' ∧ ∃ st fr', (∀ ρ, FrRel Tryd.prog ρ (apFin st) fr') ∧ g' = G fr' cs) 0 (G fr cs) w0 := by
  have hn := hP.n2
  have hn1 := hP.n1 hz
  have hfE : FrRel Tryd.prog (e1 P 0 0 0 (lst1 P.n 0 0 oA)) (apIn st) fr := hf _ rfl
  have W1 := pieceN (K := K) (main := main) (cs := cs) U R (a0 st) (lowIn st) oA0 hfE (frs := []) trivial (fun p hp => by cases hp) (fun p hp => by cases hp) (fun p hp => by
      obtain rfl := List.mem_singleton.1 hp
      exact hb.f)
  refine (Walk.trans (m := 0) (fun g1 w1 hd => ?_) W1).any
  obtain ⟨ρ1, c1', fr1, frs1, C1⟩ := hd
  obtain ⟨st1, h11, h12⟩ := toldN U (l1 (v 50) (v 3)) C1
  have R1 := R.keep C1.keeps.size
  have new1 : ∀ {b : Nat}, b < w0.heap.size → ¬ w0.heap.size ≤ b := fun h => Nat.not_le.2 h
  have H1 : At1 P 0 0 oA cs g1 w1 := ⟨hb.keep C1.keeps (new1 hb.ltG) (new1 hb.ltR), vecKeep C1.keeps vA (new1 vA.lt), st1, fr1, fun x => h12 _ (by rw [evsL C1.agree rfl]; rfl), h11⟩
  have vB1 := vecKeep C1.keeps vB (new1 vB.lt)
  refine (Walk.trans (m := 0) (fun g2 w2 h2 => ?_) (loop1 (main := main) U hP hz (q := 0) (by omega) P.n 0 (by omega) R1 (Keeps.refl _ _) H1)).any
  obtain ⟨kp2, H2⟩ := h2
  obtain ⟨st2, fr2, hf2, rfl⟩ := H2.fr
  have R2 := R1.keep kp2.size
  have vB2 := vecKeep kp2 vB1 (fun x => x.elim (fun h => absurd vB1.lt (Nat.not_lt.2 h)) fun h => hP.ab h.symm)
  have hb2 := H2.bag
  have over : ∀ q xs, ∀ p ∈ bA2 P.z, p.1.ev (e1 P q P.n 0 xs) = p.2 := fun q xs p hp => by
    obtain rfl := List.mem_singleton.1 hp
    show decide (((P.n : Nat) : Int) < (lenE P.z).ev _) = false
    rw [lenE_ev hP rfl]
    exact decide_eq_false (by omega)
  have hf2' : FrRel Tryd.prog (e1 P 0 P.n 0 (lst1 P.n 0 P.n oA)) (apFr st2 (l1 (.lit 0) (v 3)) td1) fr2 := (hf2 0).retell rfl rfl
  have W3 := pieceN (K := K) (main := main) (cs := cs) U R2 (a2 P.z st2) (low1a st2) (oA2 P.z) hf2' (frs := []) trivial (over 0 _) (fun p hp => by cases hp) (fun p hp => by
      simp only [List.mem_cons, List.not_mem_nil, or_false] at hp
      rcases hp with rfl | rfl
      · exact hb2.f
      · exact m0_ev rfl rfl rfl rfl hb2.r0)
  refine (Walk.trans (m := 0) (fun g3 w3 hd => ?_) W3).any
  obtain ⟨ρ3, c3', fr3, frs3, C3⟩ := hd
  obtain ⟨st3, h31, h32⟩ := toldN U (l1 (v 50) (v 3)) C3
  have R3 := R2.keep C3.keeps.size
  have new3 : ∀ {b : Nat}, b < w2.heap.size → ¬ w2.heap.size ≤ b := fun h => Nat.not_le.2 h
  have H3 : At1 P 1 0 oB cs g3 w3 := ⟨hb2.keep C3.keeps (new3 hb2.ltG) (new3 hb2.ltR), vecKeep C3.keeps vB2 (new3 vB2.lt), st3, fr3, fun x => h32 _ (by rw [evsL C3.agree rfl]; rfl), h31⟩
  have vA3 := vecKeep C3.keeps H2.vec (new3 H2.vec.lt)
  refine (Walk.trans (m := 0) (fun g4 w4 h4 => ?_) (loop1 (main := main) U hP hz (q := 1) (by omega) P.n 0 (by omega) R3 (Keeps.refl _ _) H3)).any
  obtain ⟨kp4, H4⟩ := h4
  obtain ⟨st4, fr4, hf4, rfl⟩ := H4.fr
  have R4 := R3.keep kp4.size
  have vA4 := vecKeep kp4 vA3 (fun x => x.elim (fun h => absurd vA3.lt (Nat.not_lt.2 h)) fun h => hP.ab h)
  have hb4 := H4.bag
  have hf4' : FrRel Tryd.prog (mkE [(2, P.n), (3, P.n), (13, P.ci), (22, P.ca), (32, P.cb)] [(11, P.BG), (12, P.IR), (20, P.A), (30, P.B)] []) (apFr st4 (l1 (.lit 1) (v 3)) td1) fr4 := (hf4 0).retell rfl rfl
  have W5 := pieceN (K := K) (main := main) (cs := cs) U R4 (a3 P.z st4) (low1b st4) (oA3 P.z) hf4' (frs := []) trivial (fun p hp => by
      obtain rfl := List.mem_singleton.1 hp
      show decide (((P.n : Nat) : Int) < (lenE P.z).ev _) = false
      rw [lenE_ev hP rfl]
      exact decide_eq_false (by omega)) (fun p hp => by cases hp) (fun p hp => by
      simp only [List.mem_cons, List.not_mem_nil, or_false] at hp
      rcases hp with rfl | rfl | rfl
      · exact hb4.f
      · exact m0_ev rfl rfl rfl rfl hb4.r0
      · exact m1_ev rfl rfl rfl rfl hb4.r1)
  refine (Walk.trans (m := 0) (fun g5 w5 hd => ?_) W5).any
  obtain ⟨ρ5, c5', fr5, frs5, C5⟩ := hd
  obtain ⟨st5, h51, h52⟩ := toldN U (l2 nilS (.raw nilV) (v 50)) C5
  subst h51
  have R5 := R4.keep C5.keeps.size
  have new5 : ∀ {b : Nat}, b < w4.heap.size → ¬ w4.heap.size ≤ b := fun h => Nat.not_le.2 h
  have vA5 : VecAt Tryd.prog w5 3 P.A (marksL 0 P.n) P.ca := vecEq (vecKeep C5.keeps vA4 (new5 vA4.lt)) (lst1_marks _ _ _)
  have vB5 : VecAt Tryd.prog w5 3 P.B (marksL 1 P.n) P.cb := vecEq (vecKeep C5.keeps H4.vec (new5 H4.vec.lt)) (lst1_marks _ _ _)
  refine (ap_late (main := main) U hP R5 (hb4.keep C5.keeps (new5 hb4.ltG) (new5 hb4.ltR)) vA5.lt vB5.lt (fun _ => ⟨vA5, vB5⟩) (by
    unfold Start2
    rw [hz]
    refine h52 _ ?_
    rw [hz, evsL C5.agree rfl]
    rfl)).weaken fun g6 w6 h6 => ⟨?_, h6.2⟩
  have s1 := C1.keeps.size
  have s2 := kp2.size
  have s3 := C3.keeps.size
  have s4 := kp4.size
  have s5 := C5.keeps.size
  have t1 : Keeps (fun x => w0.heap.size ≤ x ∨ x = P.A ∨ x = P.B) w0 w1 := C1.keeps.mono fun x hx => .inl hx
  have t2 : Keeps (fun x => w0.heap.size ≤ x ∨ x = P.A ∨ x = P.B) w1 w2 := kp2.mono fun x hx => hx.elim (fun h => .inl (Nat.le_trans s1 h)) fun h => .inr (.inl h)
  have t3 : Keeps (fun x => w0.heap.size ≤ x ∨ x = P.A ∨ x = P.B) w2 w3 := C3.keeps.mono fun x hx => .inl (by have h : w2.heap.size ≤ x := hx; omega)
  have t4 : Keeps (fun x => w0.heap.size ≤ x ∨ x = P.A ∨ x = P.B) w3 w4 := kp4.mono fun x hx => hx.elim (fun h => .inl (by omega)) fun h => .inr (.inr h)
  have t5 : Keeps (fun x => w0.heap.size ≤ x ∨ x = P.A ∨ x = P.B) w4 w5 := C5.keeps.mono fun x hx => .inl (by have h : w4.heap.size ≤ x := hx; omega)
  have t6 : Keeps (fun x => w0.heap.size ≤ x ∨ x = P.A ∨ x = P.B) w5 w6 := h6.1.mono fun x hx => hx.elim (fun h => .inl (by omega)) .inr
  exact ((((t1.trans t2).trans t3).trans t4).trans t5).trans t6

/-- Of lists that are nil. -/
theorem ap_call_nil (U : Outer K) (hP : P.Ok K) (hz : P.z = true) {w0 : World} (R : Room K w0) (hb : BagAt P w0) (hA0 : P.A < w0.heap.size) (hB0 : P.B < w0.heap.size) {st : Nat → Value} {fr : Frame} (hf : ∀ ρ : Env, ρ.b 11 = P.BG → FrRel Tryd.prog ρ (apIn st) fr) :
    Walk Tryd.prog main (DK K) (fun g' w' => Keeps (fun x => w0.heap.size ≤ x ∨ x = P.A ∨ x = P.B) w0 w' ∧ ∃ st fr', (∀ ρ, FrRel Tryd.prog ρ (apFin st) fr') ∧ g' = G fr' cs) 0 (G fr cs) w0 := by
  have hn := hP.n0 hz
  have W1 := pieceN (K := K) (main := main) (cs := cs) U R (a0 st) (lowIn st) oA0 (hf (e1 P 0 0 0 []) rfl) (frs := []) trivial (fun p hp => by cases hp) (fun p hp => by cases hp) (fun p hp => by
      obtain rfl := List.mem_singleton.1 hp
      exact hb.f)
  refine (Walk.trans (m := 0) (fun g1 w1 hd => ?_) W1).any
  obtain ⟨ρ1, c1', fr1, frs1, C1⟩ := hd
  obtain ⟨st1, h11, h12⟩ := toldN U (l1 (.lit 0) (v 3)) C1
  subst h11
  have R1 := R.keep C1.keeps.size
  have new1 : ∀ {b : Nat}, b < w0.heap.size → ¬ w0.heap.size ≤ b := fun h => Nat.not_le.2 h
  have hb1 := hb.keep C1.keeps (new1 hb.ltG) (new1 hb.ltR)
  have over : ∀ q, ∀ p ∈ bA2 P.z, p.1.ev (e1 P q 0 0 []) = p.2 := fun q p hp => by
    obtain rfl := List.mem_singleton.1 hp
    show decide (((0 : Nat) : Int) < (lenE P.z).ev _) = false
    rw [lenE_ev hP rfl]
    exact decide_eq_false (by omega)
  have hf1 : FrRel Tryd.prog (e1 P 0 0 0 []) (apFr st1 (l1 (.lit 0) (v 3)) td1) fr1 := h12 _ (by rw [evsL C1.agree rfl]; rfl)
  have W3 := pieceN (K := K) (main := main) (cs := cs) U R1 (a2 P.z st1) (low1a st1) (oA2 P.z) hf1 (frs := []) trivial (over 0) (fun p hp => by cases hp) (fun p hp => by
      simp only [List.mem_cons, List.not_mem_nil, or_false] at hp
      rcases hp with rfl | rfl
      · exact hb1.f
      · exact m0_ev rfl rfl rfl rfl hb1.r0)
  refine (Walk.trans (m := 0) (fun g3 w3 hd => ?_) W3).any
  obtain ⟨ρ3, c3', fr3, frs3, C3⟩ := hd
  obtain ⟨st3, h31, h32⟩ := toldN U (l1 (.lit 1) (v 3)) C3
  subst h31
  have R3 := R1.keep C3.keeps.size
  have new3 : ∀ {b : Nat}, b < w1.heap.size → ¬ w1.heap.size ≤ b := fun h => Nat.not_le.2 h
  have hb3 := hb1.keep C3.keeps (new3 hb1.ltG) (new3 hb1.ltR)
  have hf3 : FrRel Tryd.prog (mkE [(2, P.n), (3, 0), (13, P.ci), (22, P.ca), (32, P.cb)] [(11, P.BG), (12, P.IR), (20, P.A), (30, P.B)] []) (apFr st3 (l1 (.lit 1) (v 3)) td1) fr3 := h32 _ (by rw [evsL C3.agree rfl]; rfl)
  have W5 := pieceN (K := K) (main := main) (cs := cs) U R3 (a3 P.z st3) (low1b st3) (oA3 P.z) hf3 (frs := []) trivial (fun p hp => by
      obtain rfl := List.mem_singleton.1 hp
      show decide ((0 : Int) < (lenE P.z).ev _) = false
      rw [lenE_ev hP rfl]
      exact decide_eq_false (by omega)) (fun p hp => by cases hp) (fun p hp => by
      simp only [List.mem_cons, List.not_mem_nil, or_false] at hp
      rcases hp with rfl | rfl | rfl
      · exact hb3.f
      · exact m0_ev rfl rfl rfl rfl hb3.r0
      · exact m1_ev rfl rfl rfl rfl hb3.r1)
  refine (Walk.trans (m := 0) (fun g5 w5 hd => ?_) W5).any
  obtain ⟨ρ5, c5', fr5, frs5, C5⟩ := hd
  obtain ⟨st5, h51, h52⟩ := toldN U (l2n nilS (.raw nilV) (v 50)) C5
  subst h51
  have R5 := R3.keep C5.keeps.size
  have new5 : ∀ {b : Nat}, b < w3.heap.size → ¬ w3.heap.size ≤ b := fun h => Nat.not_le.2 h
  have s1 := C1.keeps.size
  have s3 := C3.keeps.size
  have s5 := C5.keeps.size
  refine (ap_late (main := main) U hP R5 (hb3.keep C5.keeps (new5 hb3.ltG) (new5 hb3.ltR)) (by omega) (by omega) (fun h => by rw [hz] at h; cases h) (by
    unfold Start2
    rw [hz]
    refine h52 _ ?_
    rw [hz, evsL C5.agree rfl]
    rfl)).weaken fun g6 w6 h6 => ⟨?_, h6.2⟩
  have t1 : Keeps (fun x => w0.heap.size ≤ x ∨ x = P.A ∨ x = P.B) w0 w1 := C1.keeps.mono fun x hx => .inl hx
  have t3 : Keeps (fun x => w0.heap.size ≤ x ∨ x = P.A ∨ x = P.B) w1 w3 := C3.keeps.mono fun x hx => .inl (by have h : w1.heap.size ≤ x := hx; omega)
  have t5 : Keeps (fun x => w0.heap.size ≤ x ∨ x = P.A ∨ x = P.B) w3 w5 := C5.keeps.mono fun x hx => .inl (by have h : w3.heap.size ≤ x := hx; omega)
  have t6 : Keeps (fun x => w0.heap.size ≤ x ∨ x = P.A ∨ x = P.B) w5 w6 := h6.1.mono fun x hx => hx.elim (fun h => .inl (by omega)) .inr
  exact ((t1.trans t3).trans t5).trans t6
end
end Go.Proofs.YtcpiafgkmakdiaaDoor

/-
  treadleref00.Bag.apartInts: the second loop's first rounds. Conditions: none.
-/
import Derived.Test.YtcpiafgkmakdiaaDoorSxOAp2
set_option maxRecDepth 100000
set_option linter.unusedSimpArgs false
set_option linter.unusedVariables false
namespace Go.Proofs.YtcpiafgkmakdiaaDoor
open Go.Proofs.YtcpiafgkmakdiaaDoor.SX Go.Conc

def slV (b n c : Nat) : Value := .slice (some ⟨b, 0, none⟩) n c

section
variable {K : Ctx} {main : Bool} {cs : List Frame} {P : Par}

theorem cell_ne {w : World} {b b' : Nat} {x y : Value} (h1 : w.cell? ⟨b, 0, none⟩ = some x) (h2 : w.cell? ⟨b', 0, none⟩ = some y) (hn : x ≠ y) : b ≠ b' := fun e => by
  subst e
  rw [h1] at h2
  exact hn (Option.some.inj h2)

/-- The first round of the first list. -/
theorem first2a (U : Outer K) (hP : P.Ok K) (hz : P.z = false) {w : World} (R : Room K w) (hb : BagAt P w) (vec : VecAt Tryd.prog w 3 (P.C 0) (marksL 0 P.n) (P.c 0)) {p6 : Value} {st : Nat → Value} {fr : Frame} (hf : FrRel Tryd.prog (e2 P 0 P.n (P.C 0) (P.c 0) (marksL 0 P.n) 0 0) (apFr st (l2 nilS (.raw p6) (v 50)) td2) fr) :
    Walk Tryd.prog main (DK K) (fun g' w' => Keeps (ownZ P 0 w.heap.size) w w' ∧ ∃ X cx OB co, w.heap.size ≤ X ∧ (OB = P.C 0 ∨ w.heap.size ≤ OB) ∧ At2 P 0 (P.n + 1) w.heap.size (slV X 1 cx) p6 X cx [slV OB (P.n + 1) co] OB cs g' w') 0 (G fr cs) w := by
  have hn := hP.n2
  have hn1 := hP.n1 hz
  have hg : ¬ ownZ P 0 w.heap.size P.BG := fun x => x.elim (fun h => absurd hb.ltG (Nat.not_lt.2 h)) (hP.g 0)
  have hr : ¬ ownZ P 0 w.heap.size P.IR := fun x => x.elim (fun h => absurd hb.ltR (Nat.not_lt.2 h)) (hP.r 0)
  have ownK : ∀ x, ownZ P 0 w.heap.size x → K.own x := fun x hx => hx.elim (R.new x) fun e => e ▸ hP.ownC 0
  have W := pieceB (K := K) (main := main) (cs := cs) U R (own := ownZ P 0 w.heap.size) (fun b k => b = P.C 0 ∧ k < P.n) ownK (fun x hx => .inl hx) (b0 st p6) (low2a st p6) (oB1 false true) hf (frs := []) trivial
      (by have := facts2 hP (q := 0) (by omega) (i := P.n) (by omega) (e := true) (by simp) (ρ := e2 P 0 P.n (P.C 0) (P.c 0) (marksL 0 P.n) 0 0) rfl rfl rfl; rw [hz] at this; exact this) (fun p hp => by cases hp) (fun p hp => by
      simp only [List.mem_cons, List.not_mem_nil, or_false] at hp
      rcases hp with rfl | rfl
      · exact ⟨hg, hb.f⟩
      · have := mInt_ev (P := P) (q := 0) (ρ := e2 P 0 P.n (P.C 0) (P.c 0) (marksL 0 P.n) 0 0) rfl rfl rfl rfl rfl hb.r0
        rw [hz] at this
        exact ⟨hr, this⟩)
      (fun p hp => by
        obtain rfl := List.mem_singleton.1 hp
        refine vec.is (ρ := e2 P 0 P.n (P.C 0) (P.c 0) (marksL 0 P.n) 0 0) rfl (fun inf hinf => ?_) (fun p hp => by cases hp) rfl
        rw [ints inf hinf, marksL_length]
        show P.n = (P.n : Int).toNat * 1
        omega)
      (fun p hp => by obtain rfl := List.mem_singleton.1 hp; exact .inr rfl) (by simp) (fun p hp k hk => by
        obtain rfl := List.mem_singleton.1 hp
        rcases hk with hk | hk
        · exact absurd hk (hP.stillC 0 k)
        · obtain ⟨arr, rest, inf, _, hinf, _⟩ := vec.ex
          refine ⟨rfl, inf, hinf, ?_⟩
          rw [ints inf hinf]
          show k < (P.n : Int).toNat * 1
          have := hk.2
          omega) (fun b k h => by rw [h.1]; exact vec.lt)
  refine W.weaken fun g' w' hd => ?_
  obtain ⟨ρ', c', fr', frs', C⟩ := hd
  obtain ⟨st', h1, h2⟩ := toldN U (l2 (.raw (slV (ρ'.b 103) 1 (ρ'.i 103).toNat)) (.raw p6) (v 50)) C
  have hh := C.alone.2
  have f1 : findB 101 c'.h.hp = some (.pre true 40 (v 4) [] [] [i64 (numE (v 50) (v 4))] 3 (.var 101)) := by rw [hh]; rfl
  have f3 : findB 103 c'.h.hp = some (.row [sL'] 22 (.var 103)) := by rw [hh]; rfl
  have vec' := vec_of_pre C.rel f1 (xs := marksL 0 P.n) (by rw [C.agree.v]; rfl)
  have vx := vec_of_row C.rel f3
  have o1 := C.rel.own _ _ f1 rfl
  have o3 := C.rel.own _ _ f3 rfl
  have a4 : ρ'.i 4 = P.n := C.agree.i 4 (by decide)
  have a50 : ρ'.i 50 = (0 : Nat) := C.agree.i 50 (by decide)
  have b11 : ρ'.b 11 = P.BG := C.agree.b 11 (by decide)
  have ex : wrote ρ' (marksL 0 P.n) [] ++ AV.evs ρ' [i64 (numE (v 50) (v 4))] = marksL 0 (P.n + 1) := by
    simp only [wrote, List.foldr, AV.evs, IE.ev, v, i64, AV.ev, numE, a50, a4]
    rw [num_ev (q := 0) (by omega) (by omega), marksL_succ]
  have es : AV.evs ρ' [sL'] = [slV (ρ'.b 101) (P.n + 1) (ρ'.i 101).toNat] := by
    simp only [sL', slc, AV.evs, AV.ev, Option.map_some, AA.ev, BR.ev, IE.ev, v, a4, slV]
    rfl
  rw [ex] at vec'
  rw [es] at vx
  have hPP : (K.sub (OO (bB1 false true) [] [mBag, mInt false]) (ownZ P 0 w.heap.size) fun b k => b = P.C 0 ∧ k < P.n).P = Tryd.prog := U.prog
  rw [hPP] at vec' vx
  have va : ArrAt w' (P.C 0) 0 (marksL 0 P.n) := vec.arr.stay C.stays fun k hk => ⟨rfl, by rw [marksL_length] at hk; omega⟩
  have hX : w.heap.size ≤ ρ'.b 103 := by
    rcases (o3 : ownZ P 0 w.heap.size _) with h | h
    · exact h
    · exact absurd h (cell_ne (vx.arr 0 _ rfl) (va 0 _ (marksL_get (by omega))) (by intro e; cases e))
  have hXL : ρ'.b 103 ≠ ρ'.b 101 := fun e => absurd (C.rel.inj _ _ _ _ f3 f1 e) (by decide)
  refine ⟨C.keeps, ρ'.b 103, (ρ'.i 103).toNat, ρ'.b 101, (ρ'.i 101).toNat, hX, (o1 : ownZ P 0 w.heap.size _).symm, ⟨hb.keep C.keeps hg hr, ⟨ρ'.b 101, (ρ'.i 101).toNat, st', fr', (o1 : ownZ P 0 w.heap.size _).symm, hXL, vec', h2 _ ?_, h1⟩, va, vec'.arr, vx⟩⟩
  have e9 := inc_ev (i := P.n) (by omega)
  simp only [List.map_cons, List.map_nil, l2, sL', slc, AV.evs, i64, ptr0, AV.ev, v, IE.ev, Option.map_some, AA.ev, BR.ev, a4, a50, b11, e9]
  simp only [e2, mkE]
  rfl

noncomputable def e2b (P : Par) (X cx : Nat) (o0 : Value) : Env := mkE [(2, P.n), (4, P.n), (5, P.c 1), (13, P.ci), (22, P.c 1), (50, (1 : Nat)), (34, cx), (36, (1 : Nat))] [(10, P.C 1), (11, P.BG), (12, P.IR), (20, P.C 1), (14, X)] [(40, .agg (marksL 1 P.n).toArray), (41, .agg [o0].toArray)]
theorem slices (inf : TypeInfo) (e : Tryd.prog.info? 22 = some inf) : inf.size = 1 := by
  have e2 : (Tryd.prog.info? 22).map (fun x => x.size) = some 1 := by kernel_rfl
  rw [e] at e2
  exact Option.some.inj e2

/-- The first round of the second list. -/
theorem first2b (U : Outer K) (hP : P.Ok K) (hz : P.z = false) {w : World} (R : Room K w) (hb : BagAt P w) (vec : VecAt Tryd.prog w 3 (P.C 1) (marksL 1 P.n) (P.c 1)) {X0 cx0 : Nat} {b0 n0 c0 : Nat} (vx0 : VecAt Tryd.prog w 22 X0 [slV b0 n0 c0] cx0) (kX : K.own X0) (sX0 : ∀ k, ¬ K.still X0 k) (xg : X0 ≠ P.BG) (xr : X0 ≠ P.IR) {p6 : Value} {st : Nat → Value} {fr : Frame} (hf : FrRel Tryd.prog (e2b P X0 cx0 (slV b0 n0 c0)) (apFr st (l2 sX (.raw p6) (v 50)) td2) fr) :
    Walk Tryd.prog main (DK K) (fun g' w' => Keeps (fun x => ownZ P 1 w.heap.size x ∨ x = X0) w w' ∧ ∃ X cx OB co, (X = X0 ∨ w.heap.size ≤ X) ∧ (OB = P.C 1 ∨ w.heap.size ≤ OB) ∧ At2 P 1 (P.n + 1) w.heap.size (slV X 2 cx) p6 X cx [slV b0 n0 c0, slV OB (P.n + 1) co] OB cs g' w') 0 (G fr cs) w := by
  have hn := hP.n2
  have hn1 := hP.n1 hz
  have hxc : X0 ≠ P.C 1 := cell_ne (vx0.arr 0 _ rfl) (vec.arr 0 _ (marksL_get (by omega))) (by intro e; cases e)
  have hg : ¬ (ownZ P 1 w.heap.size P.BG ∨ P.BG = X0) := fun x => x.elim (fun x => x.elim (fun h => absurd hb.ltG (Nat.not_lt.2 h)) (hP.g 1)) fun e => xg e.symm
  have hr : ¬ (ownZ P 1 w.heap.size P.IR ∨ P.IR = X0) := fun x => x.elim (fun x => x.elim (fun h => absurd hb.ltR (Nat.not_lt.2 h)) (hP.r 1)) fun e => xr e.symm
  have ownK : ∀ x, (ownZ P 1 w.heap.size x ∨ x = X0) → K.own x := fun x hx => hx.elim (fun hx => hx.elim (R.new x) fun e => e ▸ hP.ownC 1) fun e => e ▸ kX
  have W := pieceB (K := K) (main := main) (cs := cs) U R (own := fun x => ownZ P 1 w.heap.size x ∨ x = X0) (fun b k => (b = P.C 1 ∧ k < P.n) ∨ (b = X0 ∧ k < 1)) ownK (fun x hx => .inl (.inl hx)) (b0' st p6) (low2b st p6) oB1' hf (frs := []) trivial
      (fun p hp => by
        rcases List.mem_cons.1 hp with rfl | hp
        · show decide (((((1 : Nat) : Int).toNat : Nat) : Int) + 1 ≤ 1048576) = true
          exact decide_eq_true (by omega)
        · have := facts2 hP (q := 1) (by omega) (i := P.n) (by omega) (e := true) (by simp) (ρ := e2b P X0 cx0 (slV b0 n0 c0)) rfl rfl rfl
          rw [hz] at this
          exact this p hp) (fun p hp => by cases hp) (fun p hp => by
      simp only [List.mem_cons, List.not_mem_nil, or_false] at hp
      rcases hp with rfl | rfl
      · exact ⟨hg, hb.f⟩
      · have := mInt_ev (P := P) (q := 1) (ρ := e2b P X0 cx0 (slV b0 n0 c0)) rfl rfl rfl rfl rfl hb.r1
        rw [hz] at this
        exact ⟨hr, this⟩)
      (fun p hp => by
        simp only [List.mem_cons, List.not_mem_nil, or_false] at hp
        rcases hp with rfl | rfl
        · refine vx0.is (ρ := e2b P X0 cx0 (slV b0 n0 c0)) rfl (fun inf hinf => ?_) (fun p hp => by cases hp) rfl
          rw [slices inf hinf]
          rfl
        · refine vec.is (ρ := e2b P X0 cx0 (slV b0 n0 c0)) rfl (fun inf hinf => ?_) (fun p hp => by cases hp) rfl
          rw [ints inf hinf, marksL_length]
          show P.n = (P.n : Int).toNat * 1
          omega)
      (fun p hp => by
        simp only [List.mem_cons, List.not_mem_nil, or_false] at hp
        rcases hp with rfl | rfl
        · exact .inr rfl
        · exact .inl (.inr rfl)) (by
        show [X0, P.C 1].Nodup
        simp [hxc]) (fun p hp k hk => by
        simp only [List.mem_cons, List.not_mem_nil, or_false] at hp
        rcases hp with rfl | rfl
        · rcases hk with hk | hk | hk
          · exact absurd hk (sX0 k)
          · exact absurd hk.1 hxc
          · obtain ⟨arr, rest, inf, _, hinf, _⟩ := vx0.ex
            refine ⟨rfl, inf, hinf, ?_⟩
            rw [slices inf hinf]
            show k < ((1 : Nat) : Int).toNat * 1
            have := hk.2
            omega
        · rcases hk with hk | hk | hk
          · exact absurd hk (hP.stillC 1 k)
          · obtain ⟨arr, rest, inf, _, hinf, _⟩ := vec.ex
            refine ⟨rfl, inf, hinf, ?_⟩
            rw [ints inf hinf]
            show k < (P.n : Int).toNat * 1
            have := hk.2
            omega
          · exact absurd hk.1.symm hxc) (fun b k h => by
        rcases h with h | h
        · rw [h.1]; exact vec.lt
        · rw [h.1]; exact vx0.lt)
  refine W.weaken fun g' w' hd => ?_
  obtain ⟨ρ', c', fr', frs', C⟩ := hd
  obtain ⟨st', h1, h2⟩ := toldN U (l2 (.raw (slV (ρ'.b 103) 2 (ρ'.i 103).toNat)) (.raw p6) (v 50)) C
  have hh := C.alone.2
  have f1 : findB 101 c'.h.hp = some (.pre true 40 (v 4) [] [] [i64 (numE (v 50) (v 4))] 3 (.var 101)) := by rw [hh]; rfl
  have f3 : findB 103 c'.h.hp = some (.pre true 41 (v 36) [] [] [sL'] 22 (.var 103)) := by rw [hh]; rfl
  have vec' := vec_of_pre C.rel f1 (xs := marksL 1 P.n) (by rw [C.agree.v]; rfl)
  have vx := vec_of_pre C.rel f3 (xs := [slV b0 n0 c0]) (by rw [C.agree.v]; rfl)
  have o1 := C.rel.own _ _ f1 rfl
  have o3 := C.rel.own _ _ f3 rfl
  have a4 : ρ'.i 4 = P.n := C.agree.i 4 (by decide)
  have a36 : ρ'.i 36 = (1 : Nat) := C.agree.i 36 (by decide)
  have a50 : ρ'.i 50 = (1 : Nat) := C.agree.i 50 (by decide)
  have b11 : ρ'.b 11 = P.BG := C.agree.b 11 (by decide)
  have ex : wrote ρ' (marksL 1 P.n) [] ++ AV.evs ρ' [i64 (numE (v 50) (v 4))] = marksL 1 (P.n + 1) := by
    simp only [wrote, List.foldr, AV.evs, IE.ev, v, i64, AV.ev, numE, a50, a4]
    rw [num_ev (q := 1) (by omega) (by omega), marksL_succ]
  have es : wrote ρ' [slV b0 n0 c0] [] ++ AV.evs ρ' [sL'] = [slV b0 n0 c0, slV (ρ'.b 101) (P.n + 1) (ρ'.i 101).toNat] := by
    simp only [wrote, List.foldr, sL', slc, AV.evs, AV.ev, Option.map_some, AA.ev, BR.ev, IE.ev, v, a4, slV]
    rfl
  rw [ex] at vec'
  rw [es] at vx
  have hPP : (K.sub (OO bB1' [] [mBag, mInt false]) (fun x => ownZ P 1 w.heap.size x ∨ x = X0) fun b k => (b = P.C 1 ∧ k < P.n) ∨ (b = X0 ∧ k < 1)).P = Tryd.prog := U.prog
  rw [hPP] at vec' vx
  have va : ArrAt w' (P.C 1) 0 (marksL 1 P.n) := vec.arr.stay C.stays fun k hk => .inl ⟨rfl, by rw [marksL_length] at hk; omega⟩
  have vX : ArrAt w' X0 0 [slV b0 n0 c0] := vx0.arr.stay C.stays fun k hk => .inr ⟨rfl, by simpa using hk⟩
  have hL : ρ'.b 101 = P.C 1 ∨ w.heap.size ≤ ρ'.b 101 := by
    rcases (o1 : ownZ P 1 w.heap.size _ ∨ _) with h | h
    · exact h.symm
    · exact absurd h (cell_ne (vec'.arr 0 _ (marksL_get (by omega))) (vX 0 _ rfl) (by intro e; cases e))
  have hX : ρ'.b 103 = X0 ∨ w.heap.size ≤ ρ'.b 103 := by
    rcases (o3 : ownZ P 1 w.heap.size _ ∨ _) with (h | h) | h
    · exact .inr h
    · exact absurd h (cell_ne (vx.arr 0 _ rfl) (va 0 _ (marksL_get (by omega))) (by intro e; cases e))
    · exact .inl h
  have hXL : ρ'.b 103 ≠ ρ'.b 101 := fun e => absurd (C.rel.inj _ _ _ _ f3 f1 e) (by decide)
  refine ⟨C.keeps, ρ'.b 103, (ρ'.i 103).toNat, ρ'.b 101, (ρ'.i 101).toNat, hX, hL, ⟨hb.keep C.keeps hg hr, ⟨ρ'.b 101, (ρ'.i 101).toNat, st', fr', hL, hXL, vec', h2 _ ?_, h1⟩, va, vec'.arr, vx⟩⟩
  have e9 := inc_ev (i := P.n) (by omega)
  simp only [List.map_cons, List.map_nil, l2, sL', sX', slc, AV.evs, i64, ptr0, AV.ev, v, IE.ev, Option.map_some, AA.ev, BR.ev, a4, a36, a50, b11, e9]
  simp only [e2, mkE]
  rfl

/-! ### Lists that are nil -/
noncomputable def e2n (P : Par) (q : Nat) : Env := mkE [(2, P.n), (13, P.ci), (22, P.c q), (50, q)] [(11, P.BG), (12, P.IR), (20, P.C q)] []
noncomputable def e2bn (P : Par) (X cx : Nat) (o0 : Value) : Env := mkE [(2, P.n), (13, P.ci), (22, P.c 1), (50, (1 : Nat)), (34, cx), (36, (1 : Nat))] [(11, P.BG), (12, P.IR), (20, P.C 1), (14, X)] [(41, .agg [o0].toArray)]
theorem factsIx {q : Nat} (hq : q < 2) {ρ : Env} (r50 : ρ.i 50 = q) : ∀ p ∈ bIx, p.1.ev ρ = p.2 := by
  intro p hp
  simp only [bIx, List.mem_cons, List.not_mem_nil, or_false] at hp
  rcases hp with rfl | rfl
  · show decide ((0 : Int) ≤ ρ.i 50) = true
    rw [r50]; exact decide_eq_true (by omega)
  · show decide (ρ.i 50 < (2 : Int)) = true
    rw [r50]; exact decide_eq_true (by omega)
theorem num0_ev {q : Nat} (hq : q < 2) {ρ : Env} (r50 : ρ.i 50 = q) : AV.evs ρ [i64 (numE (v 50) (.lit 0))] = marksL q 1 := by
  have : AV.evs ρ [i64 (numE (v 50) (.lit 0))] = [.int .i64 (iop .add .i64 (iop .add .i64 (iop .mul .i64 1048576 (ρ.i 50)) ((0 : Nat) : Int)) 1)] := rfl
  rw [this, r50, num_ev hq (by omega)]
  rfl

theorem first2an (U : Outer K) (hP : P.Ok K) (hz : P.z = true) {w : World} (R : Room K w) (hb : BagAt P w) {p6 : Value} {st : Nat → Value} {fr : Frame} (hf : FrRel Tryd.prog (e2n P 0) (apFr st (l2n nilS (.raw p6) (v 50)) td2) fr) :
    Walk Tryd.prog main (DK K) (fun g' w' => Keeps (ownZ P 0 w.heap.size) w w' ∧ ∃ X cx OB co, w.heap.size ≤ X ∧ (OB = P.C 0 ∨ w.heap.size ≤ OB) ∧ At2 P 0 (P.n + 1) w.heap.size (slV X 1 cx) p6 X cx [slV OB (P.n + 1) co] OB cs g' w') 0 (G fr cs) w := by
  have hn := hP.n0 hz
  have W := pieceN (K := K) (main := main) (cs := cs) U R (b0n st p6) (low2n st p6) oN hf (frs := []) trivial (factsIx (q := 0) (by omega) rfl) (fun p hp => by cases hp) (fun p hp => by
      simp only [List.mem_cons, List.not_mem_nil, or_false] at hp
      rcases hp with rfl | rfl
      · exact hb.f
      · have := mInt_ev (P := P) (q := 0) (ρ := e2n P 0) rfl rfl rfl rfl rfl hb.r0
        rw [hz] at this
        exact this)
  refine W.weaken fun g' w' hd => ?_
  obtain ⟨ρ', c', fr', frs', C⟩ := hd
  obtain ⟨st', h1, h2⟩ := toldN U (l2 (.raw (slV (ρ'.b 103) 1 (ρ'.i 103).toNat)) (.raw p6) (v 50)) C
  have hh := C.alone.2
  have f1 : findB 101 c'.h.hp = some (.row [i64 (numE (v 50) (.lit 0))] 3 (.var 101)) := by rw [hh]; rfl
  have f3 : findB 103 c'.h.hp = some (.row [sN] 22 (.var 103)) := by rw [hh]; rfl
  have vec' := vec_of_row C.rel f1
  have vx := vec_of_row C.rel f3
  have o1 : w.heap.size ≤ ρ'.b 101 := C.rel.own _ _ f1 rfl
  have o3 : w.heap.size ≤ ρ'.b 103 := C.rel.own _ _ f3 rfl
  have a50 : ρ'.i 50 = (0 : Nat) := C.agree.i 50 (by decide)
  have b11 : ρ'.b 11 = P.BG := C.agree.b 11 (by decide)
  have es : AV.evs ρ' [sN] = [slV (ρ'.b 101) (P.n + 1) (ρ'.i 101).toNat] := by rw [hn]; rfl
  have ex : AV.evs ρ' [i64 (numE (v 50) (.lit 0))] = marksL 0 (P.n + 1) := by rw [hn]; exact num0_ev (q := 0) (by omega) a50
  rw [es] at vx
  rw [ex] at vec'
  have hPP : (K.sub (OO bIx [] [mBag, mInt true]) (fun n => w.heap.size ≤ n) fun _ _ => False).P = Tryd.prog := U.prog
  rw [hPP] at vec' vx
  have hXL : ρ'.b 103 ≠ ρ'.b 101 := fun e => absurd (C.rel.inj _ _ _ _ f3 f1 e) (by decide)
  refine ⟨C.keeps.mono fun x hx => .inl hx, ρ'.b 103, (ρ'.i 103).toNat, ρ'.b 101, (ρ'.i 101).toNat, o3, .inr o1, ⟨hb.keep C.keeps (Nat.not_le.2 hb.ltG) (Nat.not_le.2 hb.ltR), ⟨ρ'.b 101, (ρ'.i 101).toNat, st', fr', .inr o1, hXL, vec', h2 _ ?_, h1⟩, (fun k y hk => by rw [hn] at hk; simp [marksL] at hk), vec'.arr, vx⟩⟩
  simp only [List.map_cons, List.map_nil, l2, sN, slc, AV.evs, i64, ptr0, AV.ev, v, IE.ev, Option.map_some, AA.ev, BR.ev, a50, b11]
  simp only [e2, mkE, hn]
  rfl

theorem first2bn (U : Outer K) (hP : P.Ok K) (hz : P.z = true) {w : World} (R : Room K w) (hb : BagAt P w) {X0 cx0 : Nat} {b0 n0 c0 : Nat} (vx0 : VecAt Tryd.prog w 22 X0 [slV b0 n0 c0] cx0) (kX : K.own X0) (sX0 : ∀ k, ¬ K.still X0 k) (xg : X0 ≠ P.BG) (xr : X0 ≠ P.IR) {p6 : Value} {st : Nat → Value} {fr : Frame} (hf : FrRel Tryd.prog (e2bn P X0 cx0 (slV b0 n0 c0)) (apFr st (l2n sX (.raw p6) (v 50)) td2) fr) :
    Walk Tryd.prog main (DK K) (fun g' w' => Keeps (fun x => ownZ P 1 w.heap.size x ∨ x = X0) w w' ∧ ∃ X cx OB co, (X = X0 ∨ w.heap.size ≤ X) ∧ (OB = P.C 1 ∨ w.heap.size ≤ OB) ∧ At2 P 1 (P.n + 1) w.heap.size (slV X 2 cx) p6 X cx [slV b0 n0 c0, slV OB (P.n + 1) co] OB cs g' w') 0 (G fr cs) w := by
  have hn := hP.n0 hz
  have hg : ¬ (w.heap.size ≤ P.BG ∨ P.BG = X0) := fun x => x.elim (fun h => absurd hb.ltG (Nat.not_lt.2 h)) fun e => xg e.symm
  have hr : ¬ (w.heap.size ≤ P.IR ∨ P.IR = X0) := fun x => x.elim (fun h => absurd hb.ltR (Nat.not_lt.2 h)) fun e => xr e.symm
  have W := pieceB (K := K) (main := main) (cs := cs) U R (own := fun x => w.heap.size ≤ x ∨ x = X0) (fun b k => b = X0 ∧ k < 1) (fun x hx => hx.elim (R.new x) fun e => e ▸ kX) (fun x hx => .inl hx) (b0n' st p6) (low2n' st p6) oN' hf (frs := []) trivial
      (fun p hp => by
        rcases List.mem_cons.1 hp with rfl | hp
        · show decide (((((1 : Nat) : Int).toNat : Nat) : Int) + 1 ≤ 1048576) = true
          exact decide_eq_true (by omega)
        · exact factsIx (q := 1) (by omega) rfl p hp) (fun p hp => by cases hp) (fun p hp => by
      simp only [List.mem_cons, List.not_mem_nil, or_false] at hp
      rcases hp with rfl | rfl
      · exact ⟨hg, hb.f⟩
      · have := mInt_ev (P := P) (q := 1) (ρ := e2bn P X0 cx0 (slV b0 n0 c0)) rfl rfl rfl rfl rfl hb.r1
        rw [hz] at this
        exact ⟨hr, this⟩)
      (fun p hp => by
        obtain rfl := List.mem_singleton.1 hp
        refine vx0.is (ρ := e2bn P X0 cx0 (slV b0 n0 c0)) rfl (fun inf hinf => ?_) (fun p hp => by cases hp) rfl
        rw [slices inf hinf]
        rfl)
      (fun p hp => by obtain rfl := List.mem_singleton.1 hp; exact .inr rfl) (by simp) (fun p hp k hk => by
        obtain rfl := List.mem_singleton.1 hp
        rcases hk with hk | hk
        · exact absurd hk (sX0 k)
        · obtain ⟨arr, rest, inf, _, hinf, _⟩ := vx0.ex
          refine ⟨rfl, inf, hinf, ?_⟩
          rw [slices inf hinf]
          show k < ((1 : Nat) : Int).toNat * 1
          have := hk.2
          omega) (fun b k h => by rw [h.1]; exact vx0.lt)
  refine W.weaken fun g' w' hd => ?_
  obtain ⟨ρ', c', fr', frs', C⟩ := hd
  obtain ⟨st', h1, h2⟩ := toldN U (l2 (.raw (slV (ρ'.b 103) 2 (ρ'.i 103).toNat)) (.raw p6) (v 50)) C
  have hh := C.alone.2
  have f1 : findB 101 c'.h.hp = some (.row [i64 (numE (v 50) (.lit 0))] 3 (.var 101)) := by rw [hh]; rfl
  have f3 : findB 103 c'.h.hp = some (.pre true 41 (v 36) [] [] [sN] 22 (.var 103)) := by rw [hh]; rfl
  have vec' := vec_of_row C.rel f1
  have vx := vec_of_pre C.rel f3 (xs := [slV b0 n0 c0]) (by rw [C.agree.v]; rfl)
  have o1 : w.heap.size ≤ ρ'.b 101 ∨ ρ'.b 101 = X0 := C.rel.own _ _ f1 rfl
  have o3 : w.heap.size ≤ ρ'.b 103 ∨ ρ'.b 103 = X0 := C.rel.own _ _ f3 rfl
  have a36 : ρ'.i 36 = (1 : Nat) := C.agree.i 36 (by decide)
  have a50 : ρ'.i 50 = (1 : Nat) := C.agree.i 50 (by decide)
  have b11 : ρ'.b 11 = P.BG := C.agree.b 11 (by decide)
  have es : wrote ρ' [slV b0 n0 c0] [] ++ AV.evs ρ' [sN] = [slV b0 n0 c0, slV (ρ'.b 101) (P.n + 1) (ρ'.i 101).toNat] := by rw [hn]; rfl
  have ex : AV.evs ρ' [i64 (numE (v 50) (.lit 0))] = marksL 1 (P.n + 1) := by rw [hn]; exact num0_ev (q := 1) (by omega) a50
  rw [es] at vx
  rw [ex] at vec'
  have hPP : (K.sub (OO bN' [] [mBag, mInt true]) (fun x => w.heap.size ≤ x ∨ x = X0) fun b k => b = X0 ∧ k < 1).P = Tryd.prog := U.prog
  rw [hPP] at vec' vx
  have vX : ArrAt w' X0 0 [slV b0 n0 c0] := vx0.arr.stay C.stays fun k hk => ⟨rfl, by simpa using hk⟩
  have hL : w.heap.size ≤ ρ'.b 101 := by
    rcases o1 with h | h
    · exact h
    · exact absurd h (cell_ne (vec'.arr 0 _ (marksL_get (by omega))) (vX 0 _ rfl) (by intro e; cases e))
  have hXL : ρ'.b 103 ≠ ρ'.b 101 := fun e => absurd (C.rel.inj _ _ _ _ f3 f1 e) (by decide)
  refine ⟨C.keeps.mono fun x hx => hx.imp .inl id, ρ'.b 103, (ρ'.i 103).toNat, ρ'.b 101, (ρ'.i 101).toNat, o3.symm, .inr hL, ⟨hb.keep C.keeps hg hr, ⟨ρ'.b 101, (ρ'.i 101).toNat, st', fr', .inr hL, hXL, vec', h2 _ ?_, h1⟩, (fun k y hk => by rw [hn] at hk; simp [marksL] at hk), vec'.arr, vx⟩⟩
  simp only [List.map_cons, List.map_nil, l2, sN, sX', slc, AV.evs, i64, ptr0, AV.ev, v, IE.ev, Option.map_some, AA.ev, BR.ev, a36, a50, b11]
  simp only [e2, mkE, hn]
  rfl
end
end Go.Proofs.YtcpiafgkmakdiaaDoor

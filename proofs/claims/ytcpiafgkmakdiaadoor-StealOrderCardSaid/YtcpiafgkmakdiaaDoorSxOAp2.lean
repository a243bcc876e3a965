/-
  treadleref00.Bag.apartInts: the second loop: each list goes on for 70 places; what it was stands. Conditions: none.
-/
import Derived.Test.YtcpiafgkmakdiaaDoorSxOAp1
set_option maxRecDepth 100000
set_option linter.unusedSimpArgs false
set_option linter.unusedVariables false
namespace Go.Proofs.YtcpiafgkmakdiaaDoor
open Go.Proofs.YtcpiafgkmakdiaaDoor.SX Go.Conc

def marksL (q m : Nat) : List Value := (List.range m).map fun k => .int .i64 (markZ q k)
theorem marksL_length (q m : Nat) : (marksL q m).length = m := by simp [marksL]
theorem marksL_succ (q m : Nat) : marksL q (m + 1) = marksL q m ++ [.int .i64 (markZ q m)] := by simp [marksL, List.range_succ]
theorem marksL_get {q m k : Nat} (hk : k < m) : (marksL q m)[k]? = some (.int .i64 (markZ q k)) := by simp [marksL, List.getElem?_map, List.getElem?_range hk]
theorem lst1_marks (n q : Nat) (o : Nat → Int) : lst1 n q n o = marksL q n := by
  unfold lst1 marksL
  refine List.map_congr_left fun k hk => ?_
  rw [if_pos (List.mem_range.1 hk)]

theorem l70_ev {P : Par} {K : Ctx} (hP : P.Ok K) {ρ : Env} (h : ρ.i 2 = P.n) : (l70 P.z).ev ρ = ((P.n + 70 : Nat) : Int) := by
  have hn := hP.n2
  cases hz : P.z with
  | true =>
    have := hP.n0 hz
    rw [this]; rfl
  | false =>
    have : (l70 false).ev ρ = iop .add .i64 (((ρ.i 2).toNat : Nat) : Int) 70 := rfl
    rw [this, h]
    have x : iop .add .i64 (((P.n : Int).toNat : Nat) : Int) 70 = (((P.n : Int).toNat : Nat) : Int) + 70 := wrapN (by omega)
    rw [x]
    omega
theorem inc_ev {i : Nat} (hi : i < 9000000) : iop .add .i64 (i : Int) 1 = ((i + 1 : Nat) : Int) := by
  have x : iop .add .i64 (i : Int) 1 = (i : Int) + 1 := wrapN (by omega)
  rw [x]; rfl

section
variable {K : Ctx} {main : Bool} {cs : List Frame} {P : Par}

noncomputable def e2 (P : Par) (q i L cap : Nat) (xs : List Value) (X cx : Nat) : Env := mkE [(2, P.n), (4, i), (5, cap), (13, P.ci), (22, P.c q), (50, q), (34, cx)] [(10, L), (11, P.BG), (12, P.IR), (20, P.C q), (14, X)] [(40, .agg xs.toArray)]

structure At2 (P : Par) (q i z : Nat) (p5 p6 : Value) (X cx : Nat) (ones : List Value) (OB : Nat) (cs : List Frame) (g : Goroutine) (w : World) : Prop where
  bag : BagAt P w
  ex : ∃ L cap st fr, (L = P.C q ∨ z ≤ L) ∧ X ≠ L ∧ VecAt Tryd.prog w 3 L (marksL q i) cap ∧ FrRel Tryd.prog (e2 P q i L cap (marksL q i) 0 0) (apFr st (l2 (.raw p5) (.raw p6) (v 50)) td2) fr ∧ g = G fr cs
  va : ArrAt w (P.C q) 0 (marksL q P.n)
  vo : ArrAt w OB 0 (marksL q (P.n + 1))
  vx : VecAt Tryd.prog w 22 X ones cx

abbrev ownZ (P : Par) (q z : Nat) : Nat → Prop := fun x => z ≤ x ∨ x = P.C q

theorem facts2 (hP : P.Ok K) {q : Nat} (hq : q < 2) {i : Nat} (hi : i < P.n + 70) {e : Bool} (he : (i == P.n) = e) {ρ : Env} (r2 : ρ.i 2 = P.n) (r4 : ρ.i 4 = i) (r50 : ρ.i 50 = q) : ∀ p ∈ bB1 P.z e, p.1.ev ρ = p.2 := by
  intro p hp
  have hn := hP.n2
  simp only [bB1, bIx, List.mem_cons, List.not_mem_nil, or_false] at hp
  rcases hp with rfl | rfl | rfl | rfl | rfl
  · show decide ((ρ.i 4) < (l70 P.z).ev ρ) = true
    rw [r4, l70_ev hP r2]
    exact decide_eq_true (by omega)
  · show ((ρ.i 4) == (lenE P.z).ev ρ) = e
    rw [r4, lenE_ev hP r2, ← he]
    rw [Bool.eq_iff_iff, beq_iff_eq, beq_iff_eq]
    omega
  · show decide ((((ρ.i 4).toNat : Nat) : Int) + 1 ≤ 1048576) = true
    rw [r4]
    exact decide_eq_true (by omega)
  · show decide ((0 : Int) ≤ ρ.i 50) = true
    rw [r50]; exact decide_eq_true (by omega)
  · show decide (ρ.i 50 < (2 : Int)) = true
    rw [r50]; exact decide_eq_true (by omega)

theorem round2 (U : Outer K) (hP : P.Ok K) {q : Nat} (hq : q < 2) {i : Nat} (hi : P.n < i) (hi2 : i < P.n + 70) {w0 : World} (R0 : Room K w0) (hg0 : P.BG < w0.heap.size) (hr0 : P.IR < w0.heap.size) {p5 p6 : Value} {X cx : Nat} {ones : List Value} {OB : Nat} {g : Goroutine} {w : World} (hz : w0.heap.size ≤ w.heap.size) (H : At2 P q i w0.heap.size p5 p6 X cx ones OB cs g w) :
    Walk Tryd.prog main (DK K) (fun g' w' => Keeps (ownZ P q w0.heap.size) w w' ∧ At2 P q (i + 1) w0.heap.size p5 p6 X cx ones OB cs g' w') 0 g w := by
  obtain ⟨L, cap, st, fr, hL, hXL, vec, hf, rfl⟩ := H.ex
  have R := R0.keep hz
  have hn := hP.n2
  have hX : X < w.heap.size := H.vx.lt
  have hC : ∀ k, k < P.n → P.C q < w.heap.size := fun k hk => H.va.lt (k := k) (marksL_get hk)
  have hO : OB < w.heap.size := H.vo.lt (k := 0) (marksL_get (by omega))
  have own1 : ∀ x, (w.heap.size ≤ x ∨ x = L) → ownZ P q w0.heap.size x := fun x hx => hx.elim (fun h => .inl (Nat.le_trans hz h)) fun e => by
    subst e; exact hL.elim (fun e => .inr e) .inl
  have ownK : ∀ x, ownZ P q w0.heap.size x → K.own x := fun x hx => hx.elim (R0.new x) fun e => e ▸ hP.ownC q
  have hgz : ¬ ownZ P q w0.heap.size P.BG := fun x => x.elim (fun h => absurd hg0 (Nat.not_lt.2 h)) (hP.g q)
  have hrz : ¬ ownZ P q w0.heap.size P.IR := fun x => x.elim (fun h => absurd hr0 (Nat.not_lt.2 h)) (hP.r q)
  have W := pieceB (K := K) (main := main) (cs := cs) U R (own := fun x => w.heap.size ≤ x ∨ x = L) (fun b k => (b = P.C q ∧ k < P.n) ∨ (b = OB ∧ k < P.n + 1)) (fun x hx => ownK x (own1 x hx)) (fun x hx => .inl hx) (b1 P.z st p5 p6) (low2 st p5 p6) (oB1 P.z false) hf (frs := []) trivial
      (facts2 hP hq hi2 (by rw [beq_eq_false_iff_ne]; omega) rfl rfl rfl) (fun p hp => by cases hp) (fun p hp => by
      simp only [List.mem_cons, List.not_mem_nil, or_false] at hp
      rcases hp with rfl | rfl
      · exact ⟨fun x => hgz (own1 _ x), H.bag.f⟩
      · exact ⟨fun x => hrz (own1 _ x), mInt_ev (P := P) (q := q) rfl rfl rfl rfl rfl (H.bag.r hq)⟩)
      (fun p hp => by
        obtain rfl := List.mem_singleton.1 hp
        refine vec.is (ρ := e2 P q i L cap (marksL q i) 0 0) rfl (fun inf hinf => ?_) (fun p hp => by cases hp) rfl
        rw [ints inf hinf, marksL_length]
        show i = (i : Int).toNat * 1
        omega)
      (fun p hp => by obtain rfl := List.mem_singleton.1 hp; exact .inr rfl) (by simp) (fun p hp k hk => by
        obtain rfl := List.mem_singleton.1 hp
        rcases hk with hk | hk
        · exact absurd hk (hL.elim (fun e => by show ¬ K.still L k; rw [e]; exact hP.stillC q k) fun h => stillless R0 h)
        · obtain ⟨arr, rest, inf, _, hinf, _⟩ := vec.ex
          refine ⟨rfl, inf, hinf, ?_⟩
          rw [ints inf hinf]
          show k < (i : Int).toNat * 1
          rcases hk with ⟨_, hk⟩ | ⟨_, hk⟩ <;> omega) (fun b k h => by
        rcases h with ⟨rfl, hk⟩ | ⟨rfl, _⟩
        · exact hC k hk
        · exact hO)
  refine W.weaken fun g' w' hd => ?_
  obtain ⟨ρ', c', fr', frs', C⟩ := hd
  obtain ⟨st', h1, h2⟩ := toldN U (l2 (.raw p5) (.raw p6) (v 50)) C
  have hh := C.alone.2
  have hfind : findB 101 c'.h.hp = some (.pre true 40 (v 4) [] [] [i64 (numE (v 50) (v 4))] 3 (.var 101)) := by rw [hh]; rfl
  have vec' := vec_of_pre C.rel hfind (xs := marksL q i) (by rw [C.agree.v]; rfl)
  have own' := C.rel.own _ _ hfind rfl
  have a4 : ρ'.i 4 = i := C.agree.i 4 (by decide)
  have a50 : ρ'.i 50 = q := C.agree.i 50 (by decide)
  have ex : wrote ρ' (marksL q i) [] ++ AV.evs ρ' [i64 (numE (v 50) (v 4))] = marksL q (i + 1) := by
    simp only [wrote, List.foldr, AV.evs, IE.ev, v, i64, AV.ev, numE, a50, a4]
    rw [num_ev hq (by omega), marksL_succ]
  rw [ex] at vec'
  have hPP : (K.sub (OO (bB1 P.z false) [] [mBag, mInt P.z]) (fun x => w.heap.size ≤ x ∨ x = L) fun b k => (b = P.C q ∧ k < P.n) ∨ (b = OB ∧ k < P.n + 1)).P = Tryd.prog := U.prog
  rw [hPP] at vec'
  have hL' : ρ'.b 101 = P.C q ∨ w0.heap.size ≤ ρ'.b 101 := (own1 _ own').symm
  have hXL' : X ≠ ρ'.b 101 := fun e => by
    rcases own' with h | h
    · have h' : w.heap.size ≤ ρ'.b 101 := h
      omega
    · exact hXL (e.trans h)
  refine ⟨C.keeps.mono own1, ⟨H.bag.keep (C.keeps.mono own1) hgz hrz, ⟨ρ'.b 101, (ρ'.i 101).toNat, st', fr', hL', hXL', vec', h2 _ ?_, h1⟩, H.va.stay C.stays fun k hk => .inl ⟨rfl, by rw [marksL_length] at hk; omega⟩, H.vo.stay C.stays fun k hk => .inr ⟨rfl, by rw [marksL_length] at hk; omega⟩, H.vx.keep C.keeps fun x => x.elim (fun h => absurd hX (Nat.not_lt.2 h)) hXL⟩⟩
  have b11 : ρ'.b 11 = P.BG := C.agree.b 11 (by decide)
  have e9 := inc_ev (i := i) (by omega)
  simp only [List.map_cons, List.map_nil, l2, sL', slc, AV.evs, i64, ptr0, AV.ev, v, IE.ev, Option.map_some, AA.ev, BR.ev, a4, a50, b11, e9]
  simp only [e2, mkE]
  rfl

theorem loop2 (U : Outer K) (hP : P.Ok K) {q : Nat} (hq : q < 2) {w0 : World} (R0 : Room K w0) (hg0 : P.BG < w0.heap.size) (hr0 : P.IR < w0.heap.size) {p5 p6 : Value} {X cx : Nat} {ones : List Value} {OB : Nat} : ∀ (m i : Nat) {g : Goroutine} {w1 w : World}, i + m = P.n + 70 → P.n < i → w0.heap.size ≤ w1.heap.size → Keeps (ownZ P q w0.heap.size) w1 w → At2 P q i w0.heap.size p5 p6 X cx ones OB cs g w →
    Walk Tryd.prog main (DK K) (fun g' w' => Keeps (ownZ P q w0.heap.size) w1 w' ∧ At2 P q (P.n + 70) w0.heap.size p5 p6 X cx ones OB cs g' w') 0 g w := by
  intro m
  induction m with
  | zero =>
    intro i g w1 w hm hi hz kp H
    obtain rfl : i = P.n + 70 := by omega
    exact Walk.stop ⟨kp, H⟩
  | succ m ih =>
    intro i g w1 w hm hi hz kp H
    refine (Walk.trans (m := 0) (fun g' w' hd => ?_) (round2 (main := main) U hP hq hi (by omega) R0 hg0 hr0 (Nat.le_trans hz kp.size) H)).any
    exact ih (i + 1) (by omega) (by omega) hz (kp.trans hd.1) hd.2
end
end Go.Proofs.YtcpiafgkmakdiaaDoor

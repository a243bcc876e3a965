/-
  treadleref00.Bag.apartInts: the first loop: all marks are written. Conditions: none.
-/
import Derived.Test.YtcpiafgkmakdiaaDoorSxOAp
set_option maxRecDepth 100000
set_option linter.unusedSimpArgs false
set_option linter.unusedVariables false
namespace Go.Proofs.YtcpiafgkmakdiaaDoor
open Go.Proofs.YtcpiafgkmakdiaaDoor.SX Go.Conc

/-- Where things lie: the bag, its row of lists, the two lists' arrays, how long they are. -/
structure Par where
  BG : Nat
  IR : Nat
  ci : Nat
  A : Nat
  B : Nat
  ca : Nat
  cb : Nat
  n : Nat
  /-- the lists are nil -/
  z : Bool
def nilV : Value := .slice none 0 0
def Par.C (P : Par) : Nat → Nat
  | 0 => P.A
  | _ => P.B
def Par.c (P : Par) : Nat → Nat
  | 0 => P.ca
  | _ => P.cb
/-- A list, as a value. -/
def Par.hv (P : Par) (q : Nat) : Value := match P.z with
  | true => nilV
  | false => .slice (some ⟨P.C q, 0, none⟩) P.n (P.c q)
structure Par.Ok (P : Par) (K : Ctx) : Prop where
  ab : P.A ≠ P.B
  ga : P.BG ≠ P.A
  gb : P.BG ≠ P.B
  ra : P.IR ≠ P.A
  rb : P.IR ≠ P.B
  n1 : P.z = false → 1 ≤ P.n
  n0 : P.z = true → P.n = 0
  n2 : P.n ≤ 100000
  oa : K.own P.A
  ob : K.own P.B
  sa : ∀ k, ¬ K.still P.A k
  sb : ∀ k, ¬ K.still P.B k
structure BagAt (P : Par) (w : World) : Prop where
  f : w.cell? ⟨P.BG, 1, none⟩ = some (.slice (some ⟨P.IR, 0, none⟩) 2 P.ci)
  r0 : w.cell? ⟨P.IR, 0, none⟩ = some (P.hv 0)
  r1 : w.cell? ⟨P.IR, 1, none⟩ = some (P.hv 1)
theorem cell_keep {w w' : World} {own : Nat → Prop} (kp : Keeps own w w') {a : Addr} {v : Value} (h : w.cell? a = some v) (hb : ¬ own a.block) : w'.cell? a = some v := by
  simp only [World.cell?] at h ⊢
  rw [kp.heap _ hb]; exact h
theorem BagAt.keep {P : Par} {w w' : World} (h : BagAt P w) {own : Nat → Prop} (kp : Keeps own w w') (h1 : ¬ own P.BG) (h2 : ¬ own P.IR) : BagAt P w' := ⟨cell_keep kp h.f h1, cell_keep kp h.r0 h2, cell_keep kp h.r1 h2⟩
theorem BagAt.ltG {P : Par} {w : World} (h : BagAt P w) : P.BG < w.heap.size := cellLt h.f
theorem BagAt.ltR {P : Par} {w : World} (h : BagAt P w) : P.IR < w.heap.size := cellLt h.r0
theorem BagAt.r {P : Par} {w : World} (h : BagAt P w) {q : Nat} (hq : q < 2) : w.cell? ⟨P.IR, q, none⟩ = some (P.hv q) := by
  have : q = 0 ∨ q = 1 := by omega
  rcases this with rfl | rfl
  · exact h.r0
  · exact h.r1

theorem hdr_ev {P : Par} {q : Nat} {ρ : Env} (h1 : ρ.b 20 = P.C q) (h2 : ρ.i 2 = P.n) (h3 : ρ.i 22 = P.c q) : (hdr P.z).ev ρ = P.hv q := by
  unfold Par.hv
  cases P.z with
  | true => rfl
  | false =>
    simp only [hdr, slc, AV.ev, Option.map_some, AA.ev, BR.ev, IE.ev, v, h1, h2, h3]
    rfl
theorem hdr1_ev {P : Par} {ρ : Env} (h1 : ρ.b 30 = P.B) (h2 : ρ.i 2 = P.n) (h3 : ρ.i 32 = P.cb) : (hdr1 P.z).ev ρ = P.hv 1 := by
  unfold Par.hv
  cases P.z with
  | true => rfl
  | false =>
    simp only [hdr1, slc, AV.ev, Option.map_some, AA.ev, BR.ev, IE.ev, v, h1, h2, h3]
    rfl
theorem lenE_ev {P : Par} {K : Ctx} (hP : P.Ok K) {ρ : Env} (h : ρ.i 2 = P.n) : (lenE P.z).ev ρ = (P.n : Int) := by
  cases hz : P.z with
  | true =>
    have := hP.n0 hz
    rw [this]; rfl
  | false =>
    show (((ρ.i 2).toNat : Nat) : Int) = _
    rw [h]; rfl
theorem mInt_ev {P : Par} {q : Nat} {ρ : Env} (h1 : ρ.b 20 = P.C q) (h2 : ρ.i 2 = P.n) (h3 : ρ.i 22 = P.c q) (h4 : ρ.b 12 = P.IR) (h5 : ρ.i 50 = q) {w : World} (h : w.cell? ⟨P.IR, q, none⟩ = some (P.hv q)) : w.cell? ((mInt P.z).1.ev ρ) = some ((mInt P.z).2.ev ρ) := by
  have e1 : (mInt P.z).1.ev ρ = ⟨P.IR, q, none⟩ := by
    simp only [mInt, AA.ev, BR.ev, IE.ev, v, h4, h5]
    rfl
  have e2 : (mInt P.z).2.ev ρ = P.hv q := hdr_ev h1 h2 h3
  rw [e1, e2]; exact h

theorem m0_ev {P : Par} {ρ : Env} (h1 : ρ.b 20 = P.C 0) (h2 : ρ.i 2 = P.n) (h3 : ρ.i 22 = P.c 0) (h4 : ρ.b 12 = P.IR) {w : World} (h : w.cell? ⟨P.IR, 0, none⟩ = some (P.hv 0)) : w.cell? ((m0 P.z).1.ev ρ) = some ((m0 P.z).2.ev ρ) := by
  have e1 : (m0 P.z).1.ev ρ = ⟨P.IR, 0, none⟩ := by
    simp only [m0, AA.ev, BR.ev, IE.ev, v, h4]
    rfl
  have e2 : (m0 P.z).2.ev ρ = P.hv 0 := hdr_ev h1 h2 h3
  rw [e1, e2]; exact h
theorem m1_ev {P : Par} {ρ : Env} (h1 : ρ.b 30 = P.B) (h2 : ρ.i 2 = P.n) (h3 : ρ.i 32 = P.cb) (h4 : ρ.b 12 = P.IR) {w : World} (h : w.cell? ⟨P.IR, 1, none⟩ = some (P.hv 1)) : w.cell? ((m1 P.z).1.ev ρ) = some ((m1 P.z).2.ev ρ) := by
  have e1 : (m1 P.z).1.ev ρ = ⟨P.IR, 1, none⟩ := by
    simp only [m1, AA.ev, BR.ev, IE.ev, v, h4]
    rfl
  have e2 : (m1 P.z).2.ev ρ = P.hv 1 := hdr1_ev h1 h2 h3
  rw [e1, e2]; exact h

/-- A mark. -/
def markZ (q k : Nat) : Int := (1048576 * q + k + 1 : Nat)
theorem num_ev {q k : Nat} (hq : q < 2) (hk : k < 9000000) : iop .add .i64 (iop .add .i64 (iop .mul .i64 1048576 (q : Int)) (k : Int)) 1 = markZ q k := by
  have x1 : iop .mul .i64 1048576 (q : Int) = 1048576 * (q : Int) := wrapN (by omega)
  have x2 : iop .add .i64 (1048576 * (q : Int)) (k : Int) = 1048576 * (q : Int) + k := wrapN (by omega)
  have x3 : iop .add .i64 (1048576 * (q : Int) + k) 1 = 1048576 * (q : Int) + k + 1 := wrapN (by omega)
  rw [x1, x2, x3]
  unfold markZ
  omega
/-- Marked up to there. -/
def lst1 (n q i : Nat) (o : Nat → Int) : List Value := (List.range n).map fun k => .int .i64 (if k < i then markZ q k else o k)
theorem lst1_length (n q i : Nat) (o : Nat → Int) : (lst1 n q i o).length = n := by simp [lst1]
theorem lst1_get {n q i : Nat} {o : Nat → Int} {k : Nat} (hk : k < n) : (lst1 n q i o)[k]? = some (.int .i64 (if k < i then markZ q k else o k)) := by
  simp [lst1, List.getElem?_map, List.getElem?_range hk]
theorem lst1_set {n q i : Nat} {o : Nat → Int} (hi : i < n) : (lst1 n q i o).set i (.int .i64 (markZ q i)) = lst1 n q (i + 1) o := by
  refine List.ext_getElem? fun k => ?_
  by_cases hk : k < n
  · rw [lst1_get hk]
    by_cases e : k = i
    · subst e
      rw [List.getElem?_set_self (by rw [lst1_length]; exact hk), if_pos (by omega)]
    · rw [List.getElem?_set_ne (fun x => e x.symm), lst1_get hk]
      have : (k < i) ↔ (k < i + 1) := by omega
      simp only [this]
  · rw [List.getElem?_eq_none (by rw [List.length_set, lst1_length]; omega), List.getElem?_eq_none (by rw [lst1_length]; omega)]

theorem ints (inf : TypeInfo) (e : Tryd.prog.info? 3 = some inf) : inf.size = 1 := by
  have e2 : (Tryd.prog.info? 3).map (fun x => x.size) = some 1 := by kernel_rfl
  rw [e] at e2
  exact Option.some.inj e2

section
variable {K : Ctx} {main : Bool} {cs : List Frame} {P : Par}

noncomputable def e1 (P : Par) (q i : Nat) (x : Int) (xs : List Value) : Env := mkE [(2, P.n), (3, i), (5, x), (13, P.ci), (22, P.c q), (50, q)] [(11, P.BG), (12, P.IR), (20, P.C q)] [(40, .agg xs.toArray)]

structure At1 (P : Par) (q i : Nat) (o : Nat → Int) (cs : List Frame) (g : Goroutine) (w : World) : Prop where
  bag : BagAt P w
  vec : VecAt Tryd.prog w 3 (P.C q) (lst1 P.n q i o) (P.c q)
  fr : ∃ st fr, (∀ x, FrRel Tryd.prog (e1 P q i x (lst1 P.n q i o)) (apFr st (l1 (v 50) (v 3)) td1) fr) ∧ g = G fr cs

abbrev ownQ (P : Par) (q : Nat) (w : World) : Nat → Prop := fun x => w.heap.size ≤ x ∨ x = P.C q

theorem Par.Ok.ownC (h : P.Ok K) (q : Nat) : K.own (P.C q) := by cases q <;> first | exact h.oa | exact h.ob
theorem Par.Ok.stillC (h : P.Ok K) (q : Nat) : ∀ k, ¬ K.still (P.C q) k := by cases q <;> first | exact h.sa | exact h.sb
theorem Par.Ok.g (h : P.Ok K) (q : Nat) : P.BG ≠ P.C q := by cases q <;> first | exact h.ga | exact h.gb
theorem Par.Ok.r (h : P.Ok K) (q : Nat) : P.IR ≠ P.C q := by cases q <;> first | exact h.ra | exact h.rb

theorem round1 (U : Outer K) (hP : P.Ok K) (hz : P.z = false) {q : Nat} (hq : q < 2) {i : Nat} (hi : i < P.n) {o : Nat → Int} {g : Goroutine} {w : World} (R : Room K w) (H : At1 P q i o cs g w) :
    Walk Tryd.prog main (DK K) (fun g' w' => Keeps (ownQ P q w) w w' ∧ At1 P q (i + 1) o cs g' w') 0 g w := by
  obtain ⟨st, fr, hf, rfl⟩ := H.fr
  have hn := hP.n2
  have hx : (lst1 P.n q i o)[i]? = some (.int .i64 (o i)) := by rw [lst1_get hi, if_neg (by omega)]
  have hg : ¬ ownQ P q w P.BG := fun x => x.elim (fun h => absurd H.bag.ltG (Nat.not_lt.2 h)) (hP.g q)
  have hr : ¬ ownQ P q w P.IR := fun x => x.elim (fun h => absurd H.bag.ltR (Nat.not_lt.2 h)) (hP.r q)
  have W := pieceB (K := K) (main := main) (cs := cs) U R (own := ownQ P q w) (fun _ _ => False) (fun x hx => hx.elim (R.new x) fun e => e ▸ hP.ownC q) (fun x hx => .inl hx) (a1 st) (low1 st) oA1 (hf (o i)) (frs := []) trivial (fun p hp => by
      simp only [bA1, bIx, List.mem_cons, List.not_mem_nil, or_false] at hp
      rcases hp with rfl | rfl | rfl | rfl
      · show decide ((i : Int) < ((P.n : Int).toNat : Int)) = true
        exact decide_eq_true (by omega)
      · show decide ((0 : Int) ≤ (i : Int)) = true
        exact decide_eq_true (by omega)
      · show decide ((0 : Int) ≤ (q : Int)) = true
        exact decide_eq_true (by omega)
      · show decide ((q : Int) < 2) = true
        exact decide_eq_true (by omega)) (fun p hp => by cases hp) (fun p hp => by
      simp only [List.mem_cons, List.not_mem_nil, or_false] at hp
      rcases hp with rfl | rfl
      · exact ⟨hg, H.bag.f⟩
      · have := mInt_ev (P := P) (q := q) (ρ := e1 P q i (o i) (lst1 P.n q i o)) rfl rfl rfl rfl rfl (H.bag.r hq)
        rw [hz] at this
        exact ⟨hr, this⟩)
      (fun p hp => by
        obtain rfl := List.mem_singleton.1 hp
        refine H.vec.is (ρ := e1 P q i (o i) (lst1 P.n q i o)) rfl (fun inf hinf => ?_) (fun p hp => ?_) rfl
        · rw [ints inf hinf, lst1_length]
          show P.n = (P.n : Int).toNat * 1
          omega
        · obtain rfl := List.mem_singleton.1 hp
          exact hx)
      (fun p hp => by obtain rfl := List.mem_singleton.1 hp; exact .inr rfl) (by simp [hA]) (fun p hp k hk => by
        obtain rfl := List.mem_singleton.1 hp
        exact hk.elim (fun x => absurd x (hP.stillC q k)) False.elim) (fun b k h => h.elim)
  refine W.weaken fun g' w' hd => ?_
  obtain ⟨ρ', c', fr', frs', C⟩ := hd
  obtain ⟨st', h1, h2⟩ := toldN U (l1 (v 50) (v 3)) C
  have hh := C.alone.2
  have hfind : findB 20 c'.h.hp = some (.pre false 40 (v 2) [(.tn (v 3), i64 (v 5))] [(.tn (v 3), i64 (numE (v 50) (v 3)))] [] 3 (v 22)) := by rw [hh]; rfl
  have vec := vec_of_pre C.rel hfind (xs := lst1 P.n q i o) (by rw [C.agree.v]; rfl)
  have a3 : ρ'.i 3 = i := C.agree.i 3 (by decide)
  have a50 : ρ'.i 50 = q := C.agree.i 50 (by decide)
  have a22 : ρ'.i 22 = P.c q := C.agree.i 22 (by decide)
  have b20 : ρ'.b 20 = P.C q := C.agree.b 20 (by decide)
  have ex : wrote ρ' (lst1 P.n q i o) [(.tn (v 3), i64 (numE (v 50) (v 3)))] ++ AV.evs ρ' [] = lst1 P.n q (i + 1) o := by
    simp only [wrote, List.foldr, AV.evs, List.append_nil, IE.ev, v, a3, i64, AV.ev, numE, a50]
    rw [num_ev hq (by omega)]
    exact lst1_set hi
  rw [ex, b20] at vec
  simp only [v, IE.ev, a22] at vec
  have hPP : (K.sub (OO bA1 [] [mBag, mInt false]) (ownQ P q w) fun x x_1 => False).P = Tryd.prog := U.prog
  rw [hPP] at vec
  refine ⟨C.keeps, H.bag.keep C.keeps hg hr, vec, st', fr', fun x => h2 _ ?_, h1⟩
  rw [evsL C.agree rfl]
  have e9 : iop .add .i64 (i : Int) 1 = ((i + 1 : Nat) : Int) := by simp only [iop]; rw [wrapN (by omega)]; rfl
  simp only [List.map_cons, List.map_nil, l1, AV.evs, i64, ptr0, AV.ev, v, IE.ev, Option.map_some, AA.ev, BR.ev, List.cons.injEq, and_true]
  exact ⟨rfl, rfl, congrArg (Value.int .i64) e9.symm⟩

theorem loop1 (U : Outer K) (hP : P.Ok K) (hz : P.z = false) {q : Nat} (hq : q < 2) {o : Nat → Int} : ∀ (m i : Nat) {g : Goroutine} {w0 w : World}, i + m = P.n → Room K w → Keeps (ownQ P q w0) w0 w → At1 P q i o cs g w → Walk Tryd.prog main (DK K) (fun g' w' => Keeps (ownQ P q w0) w0 w' ∧ At1 P q P.n o cs g' w') 0 g w := by
  intro m
  induction m with
  | zero =>
    intro i g w0 w hm R kp H
    obtain rfl : i = P.n := by omega
    exact Walk.stop ⟨kp, H⟩
  | succ m ih =>
    intro i g w0 w hm R kp H
    refine (Walk.trans (m := 0) (fun g' w' hd => ?_) (round1 (main := main) U hP hz hq (by omega) R H)).any
    exact ih (i + 1) (by omega) (R.keep hd.1.size) (kp.trans (hd.1.mono fun x hx => hx.imp (fun h => Nat.le_trans kp.size h) id)) hd.2
end
end Go.Proofs.YtcpiafgkmakdiaaDoor

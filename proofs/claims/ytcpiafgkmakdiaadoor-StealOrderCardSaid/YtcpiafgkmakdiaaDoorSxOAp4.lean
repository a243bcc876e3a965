/-
  treadleref00.Bag.apartInts: the third loop: all marks stand. Conditions: none.
-/
import Derived.Test.YtcpiafgkmakdiaaDoorSxOAp3
set_option maxRecDepth 100000
set_option linter.unusedSimpArgs false
set_option linter.unusedVariables false
namespace Go.Proofs.YtcpiafgkmakdiaaDoor
open Go.Proofs.YtcpiafgkmakdiaaDoor.SX Go.Conc

/-- Where the lists of lists lie, and their lists. -/
structure Two where
  X : Nat
  cx : Nat
  Q : Nat
  cq : Nat
  OB : Nat → Nat
  co : Nat → Nat
  LB : Nat → Nat
  cl : Nat → Nat
structure Third (P : Par) (T : Two) (w : World) : Prop where
  bag : BagAt P w
  va : ∀ q, q < 2 → ArrAt w (P.C q) 0 (marksL q P.n)
  vo : ∀ q, q < 2 → ArrAt w (T.OB q) 0 (marksL q (P.n + 1))
  vl : ∀ q, q < 2 → ArrAt w (T.LB q) 0 (marksL q (P.n + 70))
  vx : ArrAt w T.X 0 [slV (T.OB 0) (P.n + 1) (T.co 0), slV (T.OB 1) (P.n + 1) (T.co 1)]
  vq : ArrAt w T.Q 0 [slV (T.LB 0) (P.n + 70) (T.cl 0), slV (T.LB 1) (P.n + 70) (T.cl 1)]

section
variable {K : Ctx} {main : Bool} {cs : List Frame} {P : Par} {T : Two}

theorem two_cases {q : Nat} (h : q < 2) : q = 0 ∨ q = 1 := by omega
theorem Third.x {w : World} (H : Third P T w) {q : Nat} (hq : q < 2) : w.cell? ⟨T.X, q, none⟩ = some (slV (T.OB q) (P.n + 1) (T.co q)) := by
  rcases two_cases hq with rfl | rfl
  · exact H.vx 0 _ rfl
  · have := H.vx 1 _ rfl
    rwa [Nat.zero_add] at this
theorem Third.q {w : World} (H : Third P T w) {q : Nat} (hq : q < 2) : w.cell? ⟨T.Q, q, none⟩ = some (slV (T.LB q) (P.n + 70) (T.cl q)) := by
  rcases two_cases hq with rfl | rfl
  · exact H.vq 0 _ rfl
  · have := H.vq 1 _ rfl
    rwa [Nat.zero_add] at this
theorem Third.keep {w w' : World} (H : Third P T w) (kp : Keeps (fun x => w.heap.size ≤ x) w w') : Third P T w' := by
  have keep : ∀ {b : Nat} {xs : List Value}, ArrAt w b 0 xs → ArrAt w' b 0 xs := fun h k y hk => h.keep kp (Nat.not_le.2 (h.lt hk)) k y hk
  exact ⟨H.bag.keep kp (Nat.not_le.2 H.bag.ltG) (Nat.not_le.2 H.bag.ltR), fun q hq => keep (H.va q hq), fun q hq => keep (H.vo q hq), fun q hq => keep (H.vl q hq), keep H.vx, keep H.vq⟩

noncomputable def e3 (P : Par) (T : Two) (q i : Nat) : Env := mkE [(2, P.n), (13, P.ci), (22, P.c q), (50, q), (60, i), (34, T.cx), (35, T.cq), (62, (P.n + 1 : Nat)), (16, T.co q), (61, (P.n + 70 : Nat)), (19, T.cl q)] [(11, P.BG), (12, P.IR), (20, P.C q), (14, T.X), (17, T.Q), (15, T.OB q), (18, T.LB q)] []

structure At3 (P : Par) (T : Two) (q i : Nat) (cs : List Frame) (g : Goroutine) (w : World) : Prop where
  third : Third P T w
  fr : ∃ st fr, FrRel Tryd.prog (e3 P T q i) (apFr st (l3 (v 50) (v 60)) td3) fr ∧ g = G fr cs

theorem num3_ev {q i : Nat} (hq : q < 2) (hi : i < 9000000) {ρ : Env} (r50 : ρ.i 50 = q) (r60 : ρ.i 60 = i) : num3.ev ρ = markZ q i := by
  have : num3.ev ρ = iop .add .i64 (iop .add .i64 (iop .mul .i64 1048576 (ρ.i 50)) (ρ.i 60)) 1 := rfl
  rw [this, r50, r60]
  exact num_ev hq hi
theorem cell3 {q i : Nat} (hq : q < 2) (hi : i < 9000000) {b : Nat} {w : World} {ρ : Env} (r50 : ρ.i 50 = q) (r60 : ρ.i 60 = i) {B m : Nat} (rb : ρ.b b = B) (h : ArrAt w B 0 (marksL q m)) (him : i < m) : w.cell? ((mCell b).1.ev ρ) = some ((mCell b).2.ev ρ) := by
  have e1 : (mCell b).1.ev ρ = ⟨B, i, none⟩ := by
    simp only [mCell, AA.ev, BR.ev, IE.ev, v, rb, r60]
    rfl
  have e2 : (mCell b).2.ev ρ = .int .i64 (markZ q i) := by
    show Value.int .i64 (num3.ev ρ) = _
    rw [num3_ev hq hi r50 r60]
  rw [e1, e2]
  have := h i _ (marksL_get him)
  rwa [Nat.zero_add] at this

theorem round3 (U : Outer K) (hP : P.Ok K) {q : Nat} (hq : q < 2) {i : Nat} (hi : i < P.n + 70) {g : Goroutine} {w : World} (R : Room K w) (H : At3 P T q i cs g w) :
    Walk Tryd.prog main (DK K) (fun g' w' => Keeps (fun x => w.heap.size ≤ x) w w' ∧ At3 P T q (i + 1) cs g' w') 0 g w := by
  obtain ⟨st, fr, hf, rfl⟩ := H.fr
  have hn := hP.n2
  have T3 := H.third
  have r50 : (e3 P T q i).i 50 = q := rfl
  have r60 : (e3 P T q i).i 60 = i := rfl
  have base : ∀ p ∈ [((.cmp .lss (v 60) (.tn (v 61)) : BE), true), (.cmp .leq (.lit 0) (v 60), true), (.cmp .eql num3 num3, true)] ++ bIx, p.1.ev (e3 P T q i) = p.2 := by
    intro p hp
    simp only [bIx, List.cons_append, List.nil_append, List.mem_cons, List.not_mem_nil, or_false] at hp
    rcases hp with rfl | rfl | rfl | rfl | rfl
    · show decide ((i : Int) < ((((P.n + 70 : Nat) : Int).toNat : Nat) : Int)) = true
      exact decide_eq_true (by omega)
    · show decide ((0 : Int) ≤ (i : Int)) = true
      exact decide_eq_true (by omega)
    · show (num3.ev (e3 P T q i) == num3.ev (e3 P T q i)) = true
      simp
    · show decide ((0 : Int) ≤ (q : Int)) = true
      exact decide_eq_true (by omega)
    · show decide ((q : Int) < 2) = true
      exact decide_eq_true (by omega)
  have mem0 : ∀ p ∈ [mBag, mInt P.z, mMore, mCell 18], w.cell? (p.1.ev (e3 P T q i)) = some (p.2.ev (e3 P T q i)) := by
    intro p hp
    simp only [List.mem_cons, List.not_mem_nil, or_false] at hp
    rcases hp with rfl | rfl | rfl | rfl
    · exact T3.bag.f
    · exact mInt_ev (P := P) (q := q) rfl rfl rfl rfl rfl (T3.bag.r hq)
    · exact T3.q hq
    · exact cell3 hq (by omega) r50 r60 rfl (T3.vl q hq) hi
  -- whichever of the three
  have fin : ∀ {bs : List (BE × Bool)} {mem : List (AA × AV)} {n : Nat}, see (run12 bs mem n [] (cf (apFr st (l3 (v 50) (v 60)) td3) [])) [0, 5, 6, 10, 11] = seen12 td3 [] (v3s (.op .add .i64 (v 60) (.lit 1))) → (OO bs [] mem).low 100 = true → (∀ p ∈ bs, p.1.ev (e3 P T q i) = p.2) → (∀ p ∈ mem, w.cell? (p.1.ev (e3 P T q i)) = some (p.2.ev (e3 P T q i))) →
      Walk Tryd.prog main (DK K) (fun g' w' => Keeps (fun x => w.heap.size ≤ x) w w' ∧ At3 P T q (i + 1) cs g' w') 0 (G fr cs) w := fun hs hO hb hm => by
    have W := pieceN (K := K) (main := main) (cs := cs) U R hs (low3 st) hO hf (frs := []) trivial hb (fun p hp => by cases hp) hm
    refine W.weaken fun g' w' hd => ?_
    obtain ⟨ρ', c', fr', frs', C⟩ := hd
    obtain ⟨st', h1, h2⟩ := toldN U (l3 (v 50) (v 60)) C
    refine ⟨C.keeps, T3.keep C.keeps, st', fr', h2 _ ?_, h1⟩
    rw [evsL C.agree rfl]
    have e9 := inc_ev (i := i) (by omega)
    simp only [List.map_cons, List.map_nil, l3, v3s, slc, AV.evs, i64, ptr0, AV.ev, v, IE.ev, Option.map_some, AA.ev, BR.ev, r60, e9]
    simp only [e3, mkE]
    rfl
  rcases Nat.lt_trichotomy i P.n with h | h | h
  · have hz : P.z = false := by
      cases hz : P.z with
      | true => have := hP.n0 hz; omega
      | false => rfl
    rw [hz] at mem0
    refine fin (c0 st) oC0 (fun p hp => ?_) fun p hp => ?_
    · simp only [bC, List.cons_append, List.nil_append, List.mem_cons] at hp
      rcases hp with rfl | rfl | rfl | rfl | rfl | hp
      · exact base _ (by simp)
      · exact base _ (by simp)
      · exact base _ (by simp)
      · show decide ((i : Int) < ((((P.n : Nat) : Int).toNat : Nat) : Int)) = true
        exact decide_eq_true (by omega)
      · show ((i : Int) == ((((P.n : Nat) : Int).toNat : Nat) : Int)) = false
        rw [beq_eq_false_iff_ne]; omega
      · exact base _ (List.mem_append_right _ hp)
    · simp only [mC, List.mem_cons, List.not_mem_nil, or_false] at hp
      rcases hp with rfl | rfl | rfl | rfl | rfl
      · exact mem0 _ (by simp)
      · exact mem0 _ (by simp)
      · exact mem0 _ (by simp)
      · exact mem0 _ (by simp)
      · exact cell3 hq (by omega) r50 r60 rfl (T3.va q hq) h
  · refine fin (c1 P.z st) (oC1 P.z) (fun p hp => ?_) fun p hp => ?_
    · simp only [bC, List.cons_append, List.nil_append, List.mem_cons] at hp
      rcases hp with rfl | rfl | rfl | rfl | rfl | rfl | hp
      · exact base _ (by simp)
      · exact base _ (by simp)
      · exact base _ (by simp)
      · show decide ((i : Int) < (lenE P.z).ev (e3 P T q i)) = false
        rw [lenE_ev hP rfl]
        exact decide_eq_false (by omega)
      · show ((i : Int) == (lenE P.z).ev (e3 P T q i)) = true
        rw [lenE_ev hP rfl, beq_iff_eq]; omega
      · show decide ((i : Int) < ((((P.n + 1 : Nat) : Int).toNat : Nat) : Int)) = true
        exact decide_eq_true (by omega)
      · exact base _ (List.mem_append_right _ hp)
    · simp only [mC, List.mem_cons, List.not_mem_nil, or_false] at hp
      rcases hp with rfl | rfl | rfl | rfl | rfl | rfl
      · exact mem0 _ (by simp)
      · exact mem0 _ (by simp)
      · exact mem0 _ (by simp)
      · exact mem0 _ (by simp)
      · exact T3.x hq
      · exact cell3 hq (by omega) r50 r60 rfl (T3.vo q hq) (by omega)
  · refine fin (c2 P.z st) (oC2 P.z) (fun p hp => ?_) fun p hp => ?_
    · simp only [bC, List.cons_append, List.nil_append, List.mem_cons] at hp
      rcases hp with rfl | rfl | rfl | rfl | rfl | hp
      · exact base _ (by simp)
      · exact base _ (by simp)
      · exact base _ (by simp)
      · show decide ((i : Int) < (lenE P.z).ev (e3 P T q i)) = false
        rw [lenE_ev hP rfl]
        exact decide_eq_false (by omega)
      · show ((i : Int) == (lenE P.z).ev (e3 P T q i)) = false
        rw [lenE_ev hP rfl, beq_eq_false_iff_ne]; omega
      · exact base _ (List.mem_append_right _ hp)
    · simp only [mC, List.mem_cons, List.not_mem_nil, or_false] at hp
      rcases hp with rfl | rfl | rfl | rfl
      · exact mem0 _ (by simp)
      · exact mem0 _ (by simp)
      · exact mem0 _ (by simp)
      · exact mem0 _ (by simp)

theorem loop3 (U : Outer K) (hP : P.Ok K) {q : Nat} (hq : q < 2) {w0 : World} (R0 : Room K w0) : ∀ (m i : Nat) {g : Goroutine} {w : World}, i + m = P.n + 70 → Keeps (fun x => w0.heap.size ≤ x) w0 w → At3 P T q i cs g w → Walk Tryd.prog main (DK K) (fun g' w' => Keeps (fun x => w0.heap.size ≤ x) w0 w' ∧ At3 P T q (P.n + 70) cs g' w') 0 g w := by
  intro m
  induction m with
  | zero =>
    intro i g w hm kp H
    obtain rfl : i = P.n + 70 := by omega
    exact Walk.stop ⟨kp, H⟩
  | succ m ih =>
    intro i g w hm kp H
    refine (Walk.trans (m := 0) (fun g' w' hd => ?_) (round3 (main := main) U hP hq (by omega) (R0.keep kp.size) H)).any
    exact ih (i + 1) (by omega) (kp.trans (hd.1.mono fun x hx => Nat.le_trans kp.size hx)) hd.2

/-- From the third loop's head to the end. -/
noncomputable def apFin (st : Nat → Value) : AFrame := apFr st [(2, TB)] [.code .ret]
def ApEnd (cs : List Frame) (w : World) (g' : Goroutine) (w' : World) : Prop := Keeps (fun x => w.heap.size ≤ x) w w' ∧ ∃ st fr', (∀ ρ, FrRel Tryd.prog ρ (apFin st) fr') ∧ g' = G fr' cs

theorem third_end (U : Outer K) (hP : P.Ok K) {g : Goroutine} {w0 : World} (R0 : Room K w0) (H : At3 P T 0 0 cs g w0) : Walk Tryd.prog main (DK K) (ApEnd cs w0) 0 g w0 := by
  refine (Walk.trans (m := 0) (fun g1 w1 h1 => ?_) (loop3 (main := main) U hP (by omega) R0 (P.n + 70) 0 (by omega) (Keeps.refl _ _) H)).any
  obtain ⟨kp1, H1⟩ := h1
  obtain ⟨st, fr, hf, rfl⟩ := H1.fr
  have R1 := R0.keep kp1.size
  have lastB : ∀ q, ∀ p ∈ bC3, p.1.ev (e3 P T q (P.n + 70)) = p.2 := fun q p hp => by
    obtain rfl := List.mem_singleton.1 hp
    show decide (((P.n + 70 : Nat) : Int) < ((((P.n + 70 : Nat) : Int).toNat : Nat) : Int)) = false
    exact decide_eq_false (by omega)
  have hf0 : FrRel Tryd.prog (e3 P T 0 (P.n + 70)) (apFr st (l3 (.lit 0) (v 60)) td3) fr := hf.retell rfl rfl
  have W := pieceN (K := K) (main := main) (cs := cs) U R1 (c3 st) (low3a st) oC3 hf0 (frs := []) trivial (lastB 0) (fun p hp => by cases hp) (fun p hp => by
    obtain rfl := List.mem_singleton.1 hp
    exact H1.third.q (q := 0) (by omega))
  refine (Walk.trans (m := 0) (fun g2 w2 hd => ?_) W).any
  obtain ⟨ρ', c', fr', frs', C⟩ := hd
  obtain ⟨st', h1, h2⟩ := toldN U (l3 (v 50) (v 60)) C
  have kp2 := kp1.trans (C.keeps.mono fun x hx => Nat.le_trans kp1.size hx)
  have H2 : At3 P T 1 0 cs g2 w2 := ⟨H1.third.keep C.keeps, st', fr', h2 _ (by rw [evsL C.agree rfl]; rfl), h1⟩
  refine (Walk.trans (m := 0) (fun g3 w3 h3 => ?_) (loop3 (main := main) U hP (q := 1) (by omega) (R0.keep kp2.size) (P.n + 70) 0 (by omega) (Keeps.refl _ _) H2)).any
  obtain ⟨kp3, H3⟩ := h3
  have kp3' := kp2.trans (kp3.mono fun x hx => Nat.le_trans kp2.size hx)
  obtain ⟨st3, fr3, hf3, rfl⟩ := H3.fr
  have hf4 : FrRel Tryd.prog (e3 P T 1 (P.n + 70)) (apFr st3 (l3 (.lit 1) (v 60)) td3) fr3 := hf3.retell rfl rfl
  have W4 := pieceN (K := K) (main := main) (cs := cs) U (R0.keep kp3'.size) (c4 st3) (low3b st3) oC4 hf4 (frs := []) trivial (lastB 1) (fun p hp => by cases hp) (fun p hp => by
    obtain rfl := List.mem_singleton.1 hp
    exact H3.third.q (q := 1) (by omega))
  refine W4.weaken fun g4 w4 hd => ?_
  obtain ⟨ρ4, c4', fr4, frs4, C4⟩ := hd
  obtain ⟨st5, h5, h6⟩ := toldN U [(2, TB)] C4
  exact ⟨kp3'.trans (C4.keeps.mono fun x hx => Nat.le_trans kp3'.size hx), st5, fr4, fun ρ => h6 ρ rfl, h5⟩
end
end Go.Proofs.YtcpiafgkmakdiaaDoor

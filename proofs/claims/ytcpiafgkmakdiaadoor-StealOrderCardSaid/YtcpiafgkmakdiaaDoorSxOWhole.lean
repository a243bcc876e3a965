/-
  treadlelaw23.StealOrder: for every number of workers and every one's own number it answers true. Conditions: none.
-/
import Derived.Test.YtcpiafgkmakdiaaDoorSxOIn0
import Derived.Test.YtcpiafgkmakdiaaDoorSxOIn1
import Derived.Test.YtcpiafgkmakdiaaDoorSxOIn2
import Derived.Test.YtcpiafgkmakdiaaDoorSxOIn3
set_option maxRecDepth 100000
set_option linter.unusedVariables false
set_option linter.unusedSimpArgs false
namespace Go.Proofs.YtcpiafgkmakdiaaDoor
open Go.Proofs.YtcpiafgkmakdiaaDoor.SX Go.Conc

theorem in_ok {w : Nat} (h1 : 2 ≤ w) (h2 : w ≤ 64) : InOk w := by
  have : w = 2 ∨ w = 3 ∨ w = 4 ∨ w = 5 ∨ w = 6 ∨ w = 7 ∨ w = 8 ∨ w = 9 ∨ w = 10 ∨ w = 11 ∨ w = 12 ∨ w = 13 ∨ w = 14 ∨ w = 15 ∨ w = 16 ∨ w = 17 ∨ w = 18 ∨ w = 19 ∨ w = 20 ∨ w = 21 ∨ w = 22 ∨ w = 23 ∨ w = 24 ∨ w = 25 ∨ w = 26 ∨ w = 27 ∨ w = 28 ∨ w = 29 ∨ w = 30 ∨ w = 31 ∨ w = 32 ∨ w = 33 ∨ w = 34 ∨ w = 35 ∨ w = 36 ∨ w = 37 ∨ w = 38 ∨ w = 39 ∨ w = 40 ∨ w = 41 ∨ w = 42 ∨ w = 43 ∨ w = 44 ∨ w = 45 ∨ w = 46 ∨ w = 47 ∨ w = 48 ∨ w = 49 ∨ w = 50 ∨ w = 51 ∨ w = 52 ∨ w = 53 ∨ w = 54 ∨ w = 55 ∨ w = 56 ∨ w = 57 ∨ w = 58 ∨ w = 59 ∨ w = 60 ∨ w = 61 ∨ w = 62 ∨ w = 63 ∨ w = 64 := by omega
  rcases this with rfl | rfl | rfl | rfl | rfl | rfl | rfl | rfl | rfl | rfl | rfl | rfl | rfl | rfl | rfl | rfl | rfl | rfl | rfl | rfl | rfl | rfl | rfl | rfl | rfl | rfl | rfl | rfl | rfl | rfl | rfl | rfl | rfl | rfl | rfl | rfl | rfl | rfl | rfl | rfl | rfl | rfl | rfl | rfl | rfl | rfl | rfl | rfl | rfl | rfl | rfl | rfl | rfl | rfl | rfl | rfl | rfl | rfl | rfl | rfl | rfl | rfl | rfl
  · exact in2
  · exact in3
  · exact in4
  · exact in5
  · exact in6
  · exact in7
  · exact in8
  · exact in9
  · exact in10
  · exact in11
  · exact in12
  · exact in13
  · exact in14
  · exact in15
  · exact in16
  · exact in17
  · exact in18
  · exact in19
  · exact in20
  · exact in21
  · exact in22
  · exact in23
  · exact in24
  · exact in25
  · exact in26
  · exact in27
  · exact in28
  · exact in29
  · exact in30
  · exact in31
  · exact in32
  · exact in33
  · exact in34
  · exact in35
  · exact in36
  · exact in37
  · exact in38
  · exact in39
  · exact in40
  · exact in41
  · exact in42
  · exact in43
  · exact in44
  · exact in45
  · exact in46
  · exact in47
  · exact in48
  · exact in49
  · exact in50
  · exact in51
  · exact in52
  · exact in53
  · exact in54
  · exact in55
  · exact in56
  · exact in57
  · exact in58
  · exact in59
  · exact in60
  · exact in61
  · exact in62
  · exact in63
  · exact in64

section
variable {K : Ctx} {main : Bool} {cs : List Frame}

theorem outLow (st s8 s3 : Nat → Value) : cfgLow 100 ⟨apFin st, [fr8 s8, fr3 s3], ⟨[], 100, 100000⟩⟩ = true := by kernel_rfl
theorem outO : (O4 [] outM [4, 27]).low 100 = true := by kernel_rfl

/-- Behind the check. -/
theorem fin_call (U : Outer K) (hk : K.lock) {w0 : World} (R : Room K w0) {BG : Nat} (hm : ∀ k, k < 14 → k ≠ 1 → w0.cell? ⟨BG, k, none⟩ = some nilV) {st s8 s3 : Nat → Value} {fr f8 f3 : Frame} (hf : ∀ ρ, FrRel Tryd.prog ρ (apFin st) fr) (h8 : ∀ ρ : Env, ρ.b 11 = BG → FrRel Tryd.prog ρ (fr8 s8) f8) (h3 : ∀ ρ, FrRel Tryd.prog ρ (fr3 s3) f3) :
    Walk Tryd.prog main (DK K) (Trues K 3 (fun n => w0.heap.size ≤ n) cs w0) 0 (G fr (f8 :: f3 :: cs)) w0 := by
  obtain ⟨P, O, own, Ev, lock, still⟩ := K
  obtain ⟨hP, Gd, hrd⟩ := U
  dsimp only at hP hk
  subst hP
  have Gd2 := sub_good (K := ⟨Tryd.prog, O, own, Ev, lock, still⟩) (O := O4 [] outM [4, 27]) (own := fun n => w0.heap.size ≤ n) (still := fun _ _ => False) Gd R.new
  refine piece_end (K := ⟨Tryd.prog, O, own, Ev, lock, still⟩) (O := O4 [] outM [4, 27]) (own := fun n => w0.heap.size ≤ n) (still := fun _ _ => False) Gd R.new ⟨fns_ok, ext_facts, mixed⟩ (ext_ok Gd2 (.inl hk) tab_facts) (rfSum_lock lock rfl (fun _ _ _ => ⟨fns_ok, ext_facts, mixed⟩) (fun _ _ _ G => ext_ok G (.inl hk) tab_facts) (fun _ _ _ _ _ => noSums_ok) _ _ _ _ Gd2) (out_run st s8 s3) (nb := 100) (outLow st s8 s3) rfl outO (ρ := mkE [] [(11, BG)] []) (hf _) (frs := [f8, f3]) ⟨h8 _ rfl, h3 _, trivial⟩
    (rel_new ⟨(fun p hp => by cases hp), (fun p hp => by cases hp), fun p hp => ?_⟩ (fun n hn => hn) fun b n h => h.elim (R.low b n) False.elim)
  have key : w0.cell? (p.1.ev (mkE [] [(11, BG)] [])) = some (p.2.ev (mkE [] [(11, BG)] [])) := by
    simp only [O4, outM, List.mem_cons, List.not_mem_nil, or_false] at hp
    rcases hp with rfl | rfl | rfl | rfl | rfl | rfl | rfl | rfl | rfl | rfl | rfl | rfl | rfl
    · exact hm 0 (by decide) (by decide)
    · exact hm 2 (by decide) (by decide)
    · exact hm 3 (by decide) (by decide)
    · exact hm 4 (by decide) (by decide)
    · exact hm 5 (by decide) (by decide)
    · exact hm 6 (by decide) (by decide)
    · exact hm 7 (by decide) (by decide)
    · exact hm 8 (by decide) (by decide)
    · exact hm 9 (by decide) (by decide)
    · exact hm 10 (by decide) (by decide)
    · exact hm 11 (by decide) (by decide)
    · exact hm 12 (by decide) (by decide)
    · exact hm 13 (by decide) (by decide)
  exact ⟨Nat.not_le.2 (cellLt key), key, fun s => ⟨hrd _ s, fun b n s e => by cases e⟩⟩

/-- From the check's entry on. -/
theorem from_in (U : Outer K) (hk : K.lock) {P : Par} (hP : P.Ok K) {w1 : World} (R : Room K w1) (hb : BagAt P w1) (hm : ∀ k, k < 14 → k ≠ 1 → w1.cell? ⟨P.BG, k, none⟩ = some nilV)
    (hz : (P.z = false ∧ ∃ oA oB, VecAt Tryd.prog w1 3 P.A (lst1 P.n 0 0 oA) P.ca ∧ VecAt Tryd.prog w1 3 P.B (lst1 P.n 1 0 oB) P.cb) ∨ (P.z = true ∧ P.A < w1.heap.size ∧ P.B < w1.heap.size))
    {st s8 s3 : Nat → Value} {fr f8 f3 : Frame} (hf : ∀ ρ : Env, ρ.b 11 = P.BG → FrRel Tryd.prog ρ (apIn st) fr) (h8 : ∀ ρ : Env, ρ.b 11 = P.BG → FrRel Tryd.prog ρ (fr8 s8) f8) (h3 : ∀ ρ, FrRel Tryd.prog ρ (fr3 s3) f3) :
    Walk Tryd.prog main (DK K) (Trues K 3 (fun n => w1.heap.size ≤ n ∨ n = P.A ∨ n = P.B) cs w1) 0 (G fr (f8 :: f3 :: cs)) w1 := by
  have W : Walk Tryd.prog main (DK K) (fun g' w' => Keeps (fun x => w1.heap.size ≤ x ∨ x = P.A ∨ x = P.B) w1 w' ∧ ∃ st fr', (∀ ρ, FrRel Tryd.prog ρ (apFin st) fr') ∧ g' = G fr' (f8 :: f3 :: cs)) 0 (G fr (f8 :: f3 :: cs)) w1 := by
    rcases hz with ⟨z, oA, oB, vA, vB⟩ | ⟨z, hA, hB⟩
    · exact ap_call U hP z R hb vA vB hf
    · exact ap_call_nil U hP z R hb hA hB hf
  refine (Walk.trans (m := 0) (fun g2 w2 h2 => ?_) W).any
  obtain ⟨kp, st2, fr2, hf2, rfl⟩ := h2
  have hG : ¬ (w1.heap.size ≤ P.BG ∨ P.BG = P.A ∨ P.BG = P.B) := fun x => by
    have := hb.ltG
    have := hP.ga
    have := hP.gb
    omega
  refine (fin_call (main := main) U hk (R.keep kp.size) (BG := P.BG) (fun k h1 h2 => cell_keep kp (hm k h1 h2) hG) hf2 h8 h3).weaken fun g' w' h => ⟨kp.trans (h.1.mono fun n hn => .inl (Nat.le_trans kp.size hn)), h.2⟩

/-- From the entry to the check. -/
theorem in_call (U : Outer K) (hk : K.lock) {w0 : World} (R : Room K w0) {bs : List (BE × Bool)} {n : Nat} {ks : List Nat} {a b : AV} {g : Nat} {hp : List (Nat × ABlk)} (hv : runIn bs n ks a b = some (inV g hp, inC g)) (hl : cfgLow 100 ⟨inF a b, [], ⟨[], 100, 100000⟩⟩ = true) (hO : (O4 bs [] [4]).low 100 = true) {ρ : Env} {fr : Frame} (hf : FrRel Tryd.prog ρ (inF a b) fr) (hb : ∀ p ∈ bs, p.1.ev ρ = p.2) :
    Walk Tryd.prog main (DK K) (fun g' w' => ∃ (ρ' : Env) (c' : ACfg) (st s8 s3 : Nat → Value) (fr' f8 f3 : Frame), Agree (Below 100) ρ ρ' ∧ Keeps (fun n => w0.heap.size ≤ n) w0 w' ∧ c'.h.hp = hp ∧ Rel (K.sub (O4 bs [] [4]) (fun n => w0.heap.size ≤ n) fun _ _ => False) ρ' c'.h w' ∧ g' = G fr' (f8 :: f3 :: cs) ∧
      (∀ ρ2 : Env, ρ2.b 11 = ρ'.b g → FrRel Tryd.prog ρ2 (apIn st) fr') ∧ (∀ ρ2 : Env, ρ2.b 11 = ρ'.b g → FrRel Tryd.prog ρ2 (fr8 s8) f8) ∧ ∀ ρ2, FrRel Tryd.prog ρ2 (fr3 s3) f3) 0 (G fr cs) w0 := by
  obtain ⟨P, O, own, Ev, lock, still⟩ := K
  obtain ⟨hP, Gd, hrd⟩ := U
  dsimp only at hP hk
  subst hP
  obtain ⟨cl, hs, hcl⟩ := seeF_ok hv
  have W := piece_new (K := ⟨Tryd.prog, O, own, Ev, lock, still⟩) (main := main) (O := O4 bs [] [4]) Gd hrd R.new R.low ⟨fns_ok, ext_facts, mixed⟩ (fun G => ext_ok G (.inl hk) tab_facts) (fun G2 => rfSum_lock lock rfl (fun _ _ _ => ⟨fns_ok, ext_facts, mixed⟩) (fun _ _ _ G => ext_ok G (.inl hk) tab_facts) (fun _ _ _ _ _ => noSums_ok) _ _ _ _ G2) hs hl hO hf (frs := []) (cs := cs) trivial hb (fun p hp => by cases hp) (fun p hp => by cases hp)
  refine W.weaken fun g' w' hd => ?_
  obtain ⟨ρ', c', fr', frs', C⟩ := hd
  obtain ⟨st, ht⟩ := C.told (lv := [(0, ptr0 11)]) (.inl rfl)
  have hcal : c'.callers = cl := congrArg Seen.callers C.seen
  have hhp : c'.h.hp = hp := congrArg Seen.hp C.seen
  obtain ⟨a8, a3, rfl, e8, e3⟩ := map_two hcl
  have hfs := C.frs
  rw [hcal] at hfs
  obtain ⟨f8, f3, rfl, r8, r3⟩ := frs_two hfs
  have n8 : a8.fn = 8 := congrArg Seen.fn e8
  have n3 : a3.fn = 3 := congrArg Seen.fn e3
  rw [n8] at e8
  rw [n3] at e3
  obtain ⟨s8, t8⟩ := FrRel.toldF r8 (lv := [(0, ptr0 11), (3, TB)]) e8 (.inl rfl)
  obtain ⟨s3, t3⟩ := FrRel.toldF r3 (lv := []) e3 (.inl rfl)
  have pv : ∀ ρ2 : Env, ρ2.b 11 = ρ'.b g → (ptr0 11).ev ρ2 = (ptr0 g).ev ρ' := fun ρ2 e => by
    simp only [ptr0, AV.ev, Option.map_some, AA.ev, BR.ev, e]
    rfl
  exact ⟨ρ', c', st, s8, s3, fr', f8, f3, C.agree, C.keeps, hhp, C.rel, C.gor, fun ρ2 e => ht ρ2 (by
    show [(ptr0 11).ev ρ2] = [(ptr0 g).ev ρ']
    rw [pv ρ2 e]), fun ρ2 e => t8 ρ2 (by
    simp only [List.map_cons, List.map_nil, AV.evs, pv ρ2 e]
    rfl), fun ρ2 => t3 ρ2 rfl⟩
end
end Go.Proofs.YtcpiafgkmakdiaaDoor

/-
  The clock's Advance: closed data. Conditions: none.
-/
import Derived.Test.YtmnahfonnljobaaGreatDoorSxLOa
set_option maxRecDepth 100000
set_option linter.unusedVariables false
set_option linter.unusedSimpArgs false
namespace Go.Proofs.YtmnahfonnljobaaGreatDoor
open Go.Proofs.YtmnahfonnljobaaGreatDoor.SX Go.Conc

noncomputable def adP (l : List Nat) : Code := pc (bodyOf Tryz.f30) ([1,1,1,1,1,1,1,1] ++ l)
noncomputable def adW : List Item := [.inRegion (opsOf (adP [0,0,0,0,0])) [3, 4, 5, 6, 7, 8, 9], .code (adP [0,0,0,0,1]), .inBlock 1, .inLoop (adP [0,0,0]), .inBlock 0, .code (adP [1])]
noncomputable def adE (st : Nat → Value) : AFrame := ⟨30, 101, tmpsOf 101 st [(0, ptr0 10), (1, nilP), (2, i64 (v 1))], [.code (bodyOf Tryz.f30)], [], .run, .normal⟩
noncomputable def adF (st : Nat → Value) : AFrame := ⟨30, 101, tmpsOf 101 st [(0, ptr0 10), (1, nilP), (8, i64 (v 5)), (9, i64 (v 9))], adW, [], .run, .normal⟩
noncomputable def lkR (f : Bool) (st : Nat → Value) : AFrame := ⟨78, 57, tmpsOf 57 st [(6, ptr0 90), (7, .bool (.lit f))], [.code .ret], [], .run, .normal⟩
def adL : FuncId → List Nat := fun n => bif Nat.beq n 30 then [0, 1, 8, 9] else []
noncomputable def sum5 : IE := .op .add .i64 (v 5) (v 1)
noncomputable def left5 : IE := .op .sub .i64 (.lit 4611686018427387904) (v 5)
noncomputable def adB : List (BE × Bool) := [(.cmp .lss (v 1) (.lit 0), false), (.cmp .lss left5 (v 1), false), (.cmp .lss (v 1) left5, true)]
noncomputable def adM : List (AA × AV) := [(⟨.dyn 10, .lit 0⟩, ptr0 11), (⟨.dyn 10, .lit 1⟩, ptr0 12)]
theorem adIn (st : Nat → Value) : seeF (runZ adB adM 595 [11, 12] (cfg (adE st) [] [(11, cel (v 5)), (12, cel (.lit 0))])) [0, 1, 2] adL = some (⟨78, 57, [.code (bodyOf Tryz.f78)], [], .run, .normal, [], [(11, cel sum5), (12, cel (.lit 1))], [ptr0 10, nilP, i64 sum5]⟩, [⟨30, 101, adW, [], .run, .normal, [], [], [ptr0 10, nilP, i64 sum5, i64 (.lit 0)]⟩]) := by kernel_rfl
theorem adInLow (st : Nat → Value) : cfgLow 100 (cfg (adE st) [] [(11, cel (v 5)), (12, cel (.lit 0))]) = true := by kernel_rfl
theorem adInO : (OO adB adM).low 100 = true := by kernel_rfl
theorem adNone (st st' : Nat → Value) : seeF (runZ [] [(⟨.dyn 10, .lit 1⟩, ptr0 12)] 228 [12] (cfg (lkR false st) [adF st'] [(12, cel (.lit 1)), tmrB 90 (v 60) (v 61)])) [6, 7] (fun _ => []) = some (⟨30, 101, [.code .ret], [], .run, .normal, [], [(12, cel (.lit 0))], [i64 (v 9), i64 (.lit 0)]⟩, []) := by kernel_rfl
theorem adNoneLow (st st' : Nat → Value) : cfgLow 100 (cfg (lkR false st) [adF st'] [(12, cel (.lit 1)), tmrB 90 (v 60) (v 61)]) = true := by kernel_rfl
theorem adNoneO : (OO [] [(⟨.dyn 10, .lit 1⟩, ptr0 12)]).low 100 = true := by kernel_rfl
noncomputable def onB : List (BE × Bool) := slB 2 ++ [(.cmp .eql (v 9) (.lit 64), false)]
noncomputable def onM : List (AA × AV) := [(offS 2 0, ptr0 20), (offS 2 2, rgF)]
noncomputable def tmW : List (Nat × ABlk) := tmB (.lit 0) (.lit 0) (.lit 1) (.lit 0) .nilIface (.lit 0) (.lit 0) (.lit 2)
noncomputable def tmZ (b : Nat) : List (Nat × ABlk) := tmB (.lit 0) (.lit 0) (.lit 1) (.lit 0) (ltE b) (.lit 3) (.lit (-1)) (.lit 4)
theorem adOne (st st' : Nat → Value) : seeF (runZ onB onM 1166 (tmK ++ [101]) (cfg (lkR true st) [adF st'] (tmW ++ [tmrB 90 (v 2) (.lit 2)]))) [0, 1, 2] adL = some (⟨78, 57, [.code (bodyOf Tryz.f78)], [], .run, .normal, [], tmZ 101 ++ [(101, .cells [i64 (v 3)] 131)], [ptr0 10, nilP, i64 (v 5)]⟩, [⟨30, 101, adW, [], .run, .normal, [], [], [ptr0 10, nilP, i64 (v 5), i64 (.op .add .i64 (v 9) (.lit 1))]⟩]) := by kernel_rfl
theorem adOneLow (st st' : Nat → Value) : cfgLow 100 (cfg (lkR true st) [adF st'] (tmW ++ [tmrB 90 (v 2) (.lit 2)])) = true := by kernel_rfl
theorem adOneO : (OO onB onM).low 100 = true := by kernel_rfl
end Go.Proofs.YtmnahfonnljobaaGreatDoor
/-
  The clock's Advance: its parts as contracts. Conditions: none.
-/
set_option maxRecDepth 100000
set_option linter.unusedVariables false
set_option linter.unusedSimpArgs false
namespace Go.Proofs.YtmnahfonnljobaaGreatDoor
open Go.Proofs.YtmnahfonnljobaaGreatDoor.SX Go.Conc

theorem relay_at {L : Lay} {drop : List Role} {new : List (Role × Nat × Blk)} {r : Role} (h : r ∉ drop) (hn : ∀ x ∈ new, x.1 ≠ r) : relay L drop new r = L r := by
  unfold relay
  have : new.find? (fun x => decide (x.1 = r)) = none := List.find?_eq_none.2 fun x hx => by simpa using hn x hx
  rw [this]
  simp [h]
theorem relay_tm' {L : Lay} {ρ : Env} {i n k : Nat} {d : List Role} {l : List (Nat × ABlk)} {new : List (Role × Nat × Blk)} (h : n ≤ k) {x : Nat × ABlk} (hx : l[k - n]? = some x) : relay L d (postL ρ (tmR n i l) ++ new) (k, i) = some (ρ.b x.1, blkOf ρ x.2) := by
  unfold relay
  rw [List.find?_append, find_tm l n k h, hx]
  rfl
theorem relay_new' {L : Lay} {ρ : Env} {i n : Nat} {d : List Role} {l : List (Nat × ABlk)} {r : Role} {x : Nat × Blk} (h : r.2 ≠ i ∨ r.1 < n ∨ n + l.length ≤ r.1) : relay L d (postL ρ (tmR n i l) ++ [(r, x)]) r = some x := by
  unfold relay
  rw [List.find?_append, find_tm_ne l n h]
  simp
theorem relay_ne' {L : Lay} {ρ : Env} {i n : Nat} {l l' : List (Nat × ABlk)} {r : Role} {d : List Role} {new : List (Role × Nat × Blk)} (hl : l'.length = l.length) (h : r.2 ≠ i ∨ r.1 < n ∨ n + l.length ≤ r.1) (hd : r ∉ d) (hn : ∀ x ∈ new, x.1 ≠ r) : relay L ((tmR n i l').map (·.1) ++ d) (postL ρ (tmR n i l) ++ new) r = L r := by
  unfold relay
  rw [List.find?_append, find_tm_ne l n h, List.find?_eq_none.2 fun x hx => by simpa using hn x hx]
  dsimp only [Option.or]
  rw [if_neg]
  intro hm
  rcases List.mem_append.1 hm with hm | hm
  · obtain ⟨h1, h2, h3⟩ := tmR_fst (i' := i) hm
    rcases h with h | h | h
    · exact h h3
    · omega
    · omega
  · exact hd hm

abbrev AdIn (C : Nat) (dd : Int) (fr : Frame) : Prop := FA 30 101 [.code (bodyOf Tryz.f30)] [] .normal [(0, ptrV C), (1, .pointer none), (2, iV dd)] fr
abbrev AdAt (C : Nat) (now rung : Int) (fr : Frame) : Prop := FA 30 101 adW [] .normal [(0, ptrV C), (1, .pointer none), (8, iV now), (9, iV rung)] fr
abbrev AdRet (rung : Int) (fr : Frame) : Prop := FA 30 101 [.code .ret] [] .normal [(6, iV rung), (7, iV 0)] fr
/-- All but these roles. -/
def KeepR (rs : List Role) (L L' : Lay) : Prop := ∀ r : Role, r ∉ rs → L' r = L r
section
variable {base : Nat} {W0 w : World} {L : Lay} {cs : List Frame} {fr frA : Frame} {K : CK} {now dd rung : Int}
noncomputable def adEnv (K : CK) (now dd rung x y : Int) (B : Nat) : Env := mkE [(1, dd), (5, now), (9, rung), (60, x), (61, y)] [(10, K.C), (11, K.N), (12, K.B), (90, B)] []
theorem ad_in (hC : L (0, 0) = some (K.C, .obj 72 (clkV K))) (hN : L (0, 1) = some (K.N, celV now)) (hB : L (0, 2) = some (K.B, celV 0)) (h0 : 0 ≤ now) (hd0 : 0 ≤ dd) (hs : now + dd < 4611686018427387904) (o : On base W0 L w) (hf : AdIn K.C dd fr) :
    Go1 base (G fr cs) w fun g' w' => ∃ fr' frA L', g' = G fr' (frA :: cs) ∧ On base W0 L' w' ∧ KeepR [(0, 1), (0, 2)] L L' ∧ L' (0, 1) = some (K.N, celV (now + dd)) ∧ L' (0, 2) = some (K.B, celV 1) ∧ LkIn K.C (now + dd) fr' ∧ AdAt K.C (now + dd) 0 frA := by
  have hsum : iop .add .i64 now dd = now + dd := by
    show IntKind.wrap .i64 (now + dd) = _
    exact IntWalk.i64_in _ (by omega)
  have hleft : iop .sub .i64 4611686018427387904 now = 4611686018427387904 - now := by
    show IntKind.wrap .i64 (4611686018427387904 - now) = _
    exact IntWalk.i64_in _ (by omega)
  let ρ : Env := adEnv K now dd 0 0 0 0
  refine Walk.weaken (fun g' w' hd => ?_) (walkZ (frs := []) (callers := []) (bs := adB) (mem := adM) (lives := adL) (cs := cs) o [((0, 1), 11, cel (v 5)), ((0, 2), 12, cel (.lit 0))] [((0, 1), 11, cel sum5), ((0, 2), 12, cel (.lit 1))] (adIn (stOf fr)) rfl rfl (adInLow _) adInO (ρ := ρ) (hf.rel (.inl rfl) [(0, ptr0 10), (1, nilP), (2, i64 (v 1))] rfl rfl) trivial (fun p hp => ?_) (fun p hp => ?_) (fun z hz => ?_) (by simp) (by simp))
  · obtain ⟨ρ1, fr1, frs1, rfl, o1, Ag, f1, fs1⟩ := hd
    obtain ⟨fA, rfl, fA1⟩ := fats_one fs1
    have f2 := fa_agree Ag f1 (by kernel_rfl)
    have f3 := fa_agree Ag fA1 (by kernel_rfl)
    have hb1 : blkOf ρ1 (cel sum5) = celV (now + dd) := by
      rw [blk_agree Ag (by kernel_rfl)]
      show celV (iop .add .i64 now dd) = _
      rw [hsum]
    have hb2 : blkOf ρ1 (cel (.lit 1)) = celV 1 := blk_agree Ag (by kernel_rfl)
    refine ⟨fr1, fA, _, rfl, o1, fun r hr => relay_at (by simpa using hr) (fun x hx => ?_), ?_, ?_, ?_, ?_⟩
    · simp only [postL, List.map_cons, List.map_nil, List.mem_cons, List.not_mem_nil, or_false] at hx hr
      rcases hx with rfl | rfl
      · exact fun e => hr (.inl e.symm)
      · exact fun e => hr (.inr e.symm)
    · show some (ρ1.b 11, blkOf ρ1 (cel sum5)) = _
      rw [hb1, Ag.b 11 (by decide)]
      rfl
    · show some (ρ1.b 12, blkOf ρ1 (cel (.lit 1))) = _
      rw [hb2, Ag.b 12 (by decide)]
      rfl
    · unfold LkIn
      rw [← hsum]
      exact f2
    · unfold AdAt
      rw [← hsum]
      exact f3
  · simp only [adB, List.mem_cons, List.not_mem_nil, or_false] at hp
    rcases hp with rfl | rfl | rfl
    · exact decide_eq_false (by show ¬ dd < 0; omega)
    · show decide (iop .sub .i64 4611686018427387904 now < dd) = false
      rw [hleft]; exact decide_eq_false (by omega)
    · show decide (dd < iop .sub .i64 4611686018427387904 now) = true
      rw [hleft]; exact decide_eq_true (by omega)
  · simp only [adM, List.mem_cons, List.not_mem_nil, or_false] at hp
    rcases hp with rfl | rfl
    · exact .inl ⟨(0, 0), _, hC, (by simp), rfl⟩
    · exact .inl ⟨(0, 0), _, hC, (by simp), rfl⟩
  · simp only [List.mem_cons, List.not_mem_nil, or_false] at hz
    rcases hz with rfl | rfl
    · exact ⟨_, hN, rfl, rfl⟩
    · exact ⟨_, hB, rfl, rfl⟩
theorem ad_none {B : Nat} {x y : Int} (hC : L (0, 0) = some (K.C, .obj 72 (clkV K))) (hB : L (0, 2) = some (K.B, celV 1)) (hA : L (0, 3) = some (B, tmrV x y)) (o : On base W0 L w) (hf : LkRet B false fr) (hfA : AdAt K.C now rung frA) :
    Go1 base (G fr (frA :: cs)) w fun g' w' => ∃ fr' L', g' = G fr' cs ∧ On base W0 L' w' ∧ KeepR [(0, 2), (0, 3)] L L' ∧ L' (0, 2) = some (K.B, celV 0) ∧ AdRet rung fr' := by
  let ρ : Env := adEnv K now 0 rung x y B
  refine Walk.weaken (fun g' w' hd => ?_) (walkZ (frs := [frA]) (callers := [adF (stOf frA)]) (bs := []) (mem := [(⟨.dyn 10, .lit 1⟩, ptr0 12)]) (lives := fun _ => []) (cs := cs) o [((0, 2), 12, cel (.lit 1)), ((0, 3), tmrB 90 (v 60) (v 61))] [((0, 2), 12, cel (.lit 0))] (adNone (stOf fr) (stOf frA)) rfl rfl (adNoneLow _ _) adNoneO (ρ := ρ) (hf.rel (.inl rfl) [(6, ptr0 90), (7, .bool (.lit false))] rfl rfl) ⟨hfA.rel (.inl rfl) [(0, ptr0 10), (1, nilP), (8, i64 (v 5)), (9, i64 (v 9))] rfl rfl, trivial⟩ (fun p hp => by cases hp) (fun p hp => ?_) (fun z hz => ?_) (by simp) (by simp))
  · obtain ⟨ρ1, fr1, frs1, rfl, o1, Ag, f1, fs1⟩ := hd
    obtain rfl := fats_none fs1
    have f2 := fa_agree Ag f1 (by kernel_rfl)
    refine ⟨fr1, _, rfl, o1, fun r hr => relay_at (by simpa using hr) (fun x hx => ?_), ?_, f2⟩
    · simp only [postL, List.map_cons, List.map_nil, List.mem_cons, List.not_mem_nil, or_false] at hx hr
      subst hx
      exact fun e => hr (.inl e.symm)
    · show some (ρ1.b 12, blkOf ρ1 (cel (.lit 0))) = _
      rw [blk_agree Ag (by kernel_rfl), Ag.b 12 (by decide)]
      rfl
  · obtain rfl := List.mem_singleton.1 hp
    exact .inl ⟨(0, 0), _, hC, (by simp), rfl⟩
  · simp only [List.mem_cons, List.not_mem_nil, or_false] at hz
    rcases hz with rfl | rfl
    · exact ⟨_, hB, rfl, rfl⟩
    · exact ⟨_, hA, rfl, rfl⟩
end
end Go.Proofs.YtmnahfonnljobaaGreatDoor
/-
  One that rings. Conditions: none.
-/
set_option maxRecDepth 100000
set_option linter.unusedVariables false
set_option linter.unusedSimpArgs false
namespace Go.Proofs.YtmnahfonnljobaaGreatDoor
open Go.Proofs.YtmnahfonnljobaaGreatDoor.SX Go.Conc

section
variable {base : Nat} {W0 w : World} {L : Lay} {cs : List Frame} {fr frA : Frame} {K : CK} {now rung : Int} {t : TM} {j : Nat}
noncomputable def onE (K : CK) (now rung : Int) (j : Nat) (t : TM) (B : Nat) : Env := tmE [(2, j), (3, t.D), (5, now), (9, rung)] [(90, B)] K.C K.N t
theorem ad_one {B : Nat} (hj : j < 16) (hr : rung < 64) (hC : L (0, 0) = some (K.C, .obj 72 (clkV K))) (hs : K.sl j = t.b 17) (hfn : K.fn j = rgV (t.b 7) (t.b 16)) (T : TmAt L K.C j t.waits) (hA : L (0, 3) = some (B, tmrV j 2)) (o : On base W0 L w) (hf : LkRet B true fr) (hfA : AdAt K.C now rung frA) :
    Go1 base (G fr (frA :: cs)) w fun g' w' => ∃ fr' frA' L' b, g' = G fr' (frA' :: cs) ∧ On base W0 L' w' ∧ (∀ k i, ¬ (k = 0 ∧ i = 3) → i ≠ j ∨ k < 1 ∨ (18 ≤ k ∧ k ≠ 19) → L' (k, i) = L (k, i)) ∧ TmAt L' K.C j (t.late b) ∧ L' (19, j) = some (b, .obj 131 [iV t.D]) ∧ LkIn K.C now fr' ∧ AdAt K.C now (iop .add .i64 rung 1) frA' := by
  let ρ : Env := onE K now rung j t B
  have hpre : PreL L ρ (tmR 1 j tmW) := tm_pre rfl T fun k hk x hx => by
    rcases or17 hk with rfl | rfl | rfl | rfl | rfl | rfl | rfl | rfl | rfl | rfl | rfl | rfl | rfl | rfl | rfl | rfl | rfl <;> (obtain rfl := Option.some.inj hx; exact ⟨_, rfl, rfl, rfl⟩)
  have h03 : ((0, 3) : Role) ∉ (tmR 1 j tmW).map (·.1) := no_zero
  have hsnd : ((tmR 1 j tmW ++ [((0, 3), tmrB 90 (v 2) (.lit 2))] : List (Role × Nat × ABlk))).map (·.2) = tmW ++ [tmrB 90 (v 2) (.lit 2)] := by rw [List.map_append, tmR_snd]; rfl
  have hv := adOne (stOf fr) (stOf frA)
  have hlow := adOneLow (stOf fr) (stOf frA)
  rw [← hsnd] at hv hlow
  refine Walk.weaken (fun g' w' hd => ?_) (walkZ (frs := [frA]) (callers := [adF (stOf frA)]) (bs := onB) (mem := onM) (lives := adL) (cs := cs) o (tmR 1 j tmW ++ [((0, 3), tmrB 90 (v 2) (.lit 2))]) (tmR 1 j (tmZ 101) ++ [((19, j), 101, .cells [i64 (v 3)] 131)]) hv (by rw [List.map_append, tmR_snd]; rfl) rfl hlow adOneO (ρ := ρ) (hf.rel (.inl rfl) [(6, ptr0 90), (7, .bool (.lit true))] rfl rfl) ⟨hfA.rel (.inl rfl) [(0, ptr0 10), (1, nilP), (8, i64 (v 5)), (9, i64 (v 9))] rfl rfl, trivial⟩ (fun p hp => ?_) (fun p hp => ?_) (fun z hz => ?_) ?_ ?_)
  · obtain ⟨ρ1, fr1, frs1, rfl, o1, Ag, f1, fs1⟩ := hd
    obtain ⟨fA, rfl, fA1⟩ := fats_one fs1
    have f2 := fa_agree Ag f1 (by kernel_rfl)
    have f3 := fa_agree Ag fA1 (by kernel_rfl)
    have hpost : postL ρ1 (tmR 1 j (tmZ 101) ++ [((19, j), 101, .cells [i64 (v 3)] 131)]) = postL ρ1 (tmR 1 j (tmZ 101)) ++ [((19, j), ρ1.b 101, .obj 131 [.int .i64 (ρ1.i 3)])] := by unfold postL; rw [List.map_append]; rfl
    have hdrop : (tmR 1 j tmW ++ [((0, 3), tmrB 90 (v 2) (.lit 2))] : List (Role × Nat × ABlk)).map (·.1) = (tmR 1 j tmW).map (·.1) ++ [(0, 3)] := by rw [List.map_append]; rfl
    rw [hpost, hdrop] at o1
    refine ⟨fr1, fA, _, ρ1.b 101, rfl, o1, fun k i h1 h2 => ?_, fun k h1 h2 => ?_, ?_, f2, f3⟩
    · refine relay_ne' rfl ?_ ?_ ?_
      · show i ≠ j ∨ k < 1 ∨ 1 + 17 ≤ k
        omega
      · intro h
        obtain ⟨rfl, rfl⟩ := Prod.mk.inj (List.mem_singleton.1 h)
        exact h1 ⟨rfl, rfl⟩
      · intro x hx e
        obtain rfl := List.mem_singleton.1 hx
        obtain ⟨rfl, rfl⟩ := Prod.mk.inj e
        omega
    · have key : ∀ q, q < 17 → ∀ x, (tmZ 101)[q]? = some x → some (ρ1.b x.1, blkOf ρ1 x.2) = tmL K.C j (t.late (ρ1.b 101)) (q + 1) := by
        intro q hq x hx
        by_cases h7 : q = 7
        · subst h7
          obtain rfl := Option.some.inj hx
          show some (ρ1.b 71, Blk.obj 48 [ptrV (ρ1.b 72), ptrV (ρ1.b 73), iV 0, ltV (ρ1.b 101)]) = _
          rw [Ag.b 71 (by decide), Ag.b 72 (by decide), Ag.b 73 (by decide)]
          rfl
        · rcases or17 hq with rfl | rfl | rfl | rfl | rfl | rfl | rfl | rfl | rfl | rfl | rfl | rfl | rfl | rfl | rfl | rfl | rfl <;>
          first
          | exact absurd rfl h7
          | (obtain rfl := Option.some.inj hx
             rw [Ag.b _ (by decide), blk_agree Ag (by kernel_rfl)]
             rfl)
      have hlt : k - 1 < (tmZ 101).length := by
        show k - 1 < 17
        omega
      rw [relay_tm' h1 (List.getElem?_eq_getElem hlt), key (k - 1) (by omega) _ (List.getElem?_eq_getElem hlt), show k - 1 + 1 = k from by omega]
    · rw [relay_new' (.inr (.inr (by show 1 + 17 ≤ 19; omega)))]
      show some (ρ1.b 101, Blk.obj 131 [.int .i64 (ρ1.i 3)]) = _
      rw [Ag.i 3 (by decide)]
      rfl
  · rcases List.mem_append.1 hp with hp | hp
    · exact slB_ok rfl hj p hp
    · obtain rfl := List.mem_singleton.1 hp
      show (rung == 64) = false
      simp
      omega
  · simp only [onM, List.mem_cons, List.not_mem_nil, or_false] at hp
    have h00 : ((0, 0) : Role) ∉ (tmR 1 j tmW ++ [((0, 3), tmrB 90 (v 2) (.lit 2))] : List (Role × Nat × ABlk)).map (·.1) := by
      rw [List.map_append]
      intro h
      rcases List.mem_append.1 h with h | h
      · exact no_zero h
      · cases List.mem_singleton.1 h
    rcases hp with rfl | rfl
    · refine .inl ⟨(0, 0), _, hC, h00, ?_⟩
      rw [offS_ev (ρ := ρ) (n := j) rfl 0 (by omega)]
      show (clkV K)[2 + j * 3]? = some (ptrV (t.b 17))
      rw [(clk_get K hj).1, hs]
    · refine .inl ⟨(0, 0), _, hC, h00, ?_⟩
      rw [offS_ev (ρ := ρ) (n := j) rfl 2 (by omega)]
      show (clkV K)[2 + j * 3 + 2]? = some (rgV (t.b 7) (t.b 16))
      rw [(clk_get K hj).2.2, hfn]
  · rcases List.mem_append.1 hz with hz | hz
    · exact hpre z hz
    · obtain rfl := List.mem_singleton.1 hz
      exact ⟨_, hA, rfl, rfl⟩
  · rw [List.map_append]
    refine List.nodup_append.2 ⟨tmR_nodup _ _, by simp, fun a ha b hb e => ?_⟩
    subst e
    obtain rfl := List.mem_singleton.1 hb
    exact h03 ha
  · rw [show (tmR 1 j (tmZ 101) ++ [((19, j), 101, .cells [i64 (v 3)] 131)] : List (Role × Nat × ABlk)).map (·.2.1) = tmK ++ [101] from rfl]
    decide
end
end Go.Proofs.YtmnahfonnljobaaGreatDoor
/-
  The clock with its timers; Advance whole. Conditions: none.
-/
set_option maxRecDepth 100000
set_option linter.unusedVariables false
set_option linter.unusedSimpArgs false
namespace Go.Proofs.YtmnahfonnljobaaGreatDoor
open Go.Proofs.YtmnahfonnljobaaGreatDoor.SX Go.Conc

/-- How a timer stands: it waits; it was filled in time; it is late; late, and its future filled. -/
inductive St where
  | w
  | f (x : Int)
  | l (b : Nat)
  | a (x : Int) (b : Nat)
 deriving DecidableEq
def stT (t : TM) : St → TM
  | .w => t.waits
  | .f x => t.full x
  | .l b => t.late b
  | .a x b => t.after x b
def St.sl : St → Int
  | .w => 2
  | _ => 4
theorem stT_sl (t : TM) (x : St) : (stT t x).sl = x.sl := by cases x <;> rfl
theorem stT_D (t : TM) (x : St) : (stT t x).D = t.D := by cases x <;> rfl
theorem stT_b (t : TM) (x : St) : (stT t x).b = t.b := by cases x <;> rfl
def updS (X : Nat → St) (j : Nat) (x : St) : Nat → St := fun i => if i = j then x else X i
structure Sys (L : Lay) (K : CK) (n : Nat) (T : Nat → TM) (X : Nat → St) (now busy : Int) : Prop where
  clk : L (0, 0) = some (K.C, .obj 72 (clkV K))
  N : L (0, 1) = some (K.N, celV now)
  B : L (0, 2) = some (K.B, celV busy)
  tm : ∀ i, i < n → TmAt L K.C i (stT (T i) (X i))
  sl : ∀ i, i < n → K.sl i = (T i).b 17 ∧ K.fn i = rgV ((T i).b 7) ((T i).b 16)
  due : ∀ i, i < n → L (18, i) = some (K.du i, celV (T i).D)
  free : ∀ i, n ≤ i → i < 16 → L (17, i) = some (K.sl i, celV 0) ∧ L (18, i) = some (K.du i, celV 0)
  le : n ≤ 16
/-- The clock's roles and its timers'. -/
def isSys : Role → Bool
  | (0, 0) => true
  | (0, 1) => true
  | (0, 2) => true
  | (0, _) => false
  | (k + 1, _) => decide (k < 18)
theorem Sys.keep {L L' : Lay} {K : CK} {n : Nat} {T : Nat → TM} {X : Nat → St} {now busy : Int} (S : Sys L K n T X now busy) (h : ∀ r, isSys r = true → L' r = L r) : Sys L' K n T X now busy :=
  ⟨(h _ rfl).trans S.clk, (h _ rfl).trans S.N, (h _ rfl).trans S.B, fun i hi k h1 h2 => (h (k, i) (by
      obtain ⟨q, rfl⟩ : ∃ q, k = q + 1 := ⟨k - 1, by omega⟩
      exact decide_eq_true (by omega))).trans (S.tm i hi k h1 h2), S.sl, fun i hi => (h _ rfl).trans (S.due i hi), fun i h1 h2 => ⟨(h _ rfl).trans (S.free i h1 h2).1, (h _ rfl).trans (S.free i h1 h2).2⟩, S.le⟩
def slS (n : Nat) (X : Nat → St) (i : Nat) : Int := if i < n then (X i).sl else 0
def duS (n : Nat) (T : Nat → TM) (i : Nat) : Int := if i < n then (T i).D else 0
section
variable {base : Nat} {W0 w : World} {L : Lay} {cs : List Frame} {fr frA : Frame} {K : CK} {n : Nat} {T : Nat → TM} {X : Nat → St} {now dd busy : Int}
theorem Sys.slot (S : Sys L K n T X now busy) (i : Nat) (hi : i < 16) : SlotAt L K i (slS n X i) (duS n T i) := by
  unfold slS duS
  by_cases h : i < n
  · rw [if_pos h, if_pos h]
    refine ⟨?_, S.due i h⟩
    rw [S.tm i h 17 (by omega) (by omega)]
    show some ((stT (T i) (X i)).b 17, celV (stT (T i) (X i)).sl) = _
    rw [stT_b, stT_sl, (S.sl i h).1]
  · rw [if_neg h, if_neg h]
    obtain ⟨h1, h2⟩ := S.free i (by omega) hi
    exact ⟨h1, h2⟩
theorem sl_cases (i : Nat) : slS n X i = 0 ∨ slS n X i = 2 ∨ slS n X i = 4 := by
  unfold slS
  split
  · cases X i <;> simp [St.sl]
  · exact .inl rfl
theorem sl_two {i : Nat} : slS n X i = 2 ↔ i < n ∧ X i = .w := by
  unfold slS
  split
  · rename_i h
    cases e : X i <;> simp [St.sl, h]
  · rename_i h
    simp [h]
/-- How many wait whose time has come. -/
def cnt (n : Nat) (T : Nat → TM) (X : Nat → St) (now : Int) : Nat := ((List.range n).filter fun i => decide (X i = .w ∧ (T i).D ≤ now)).length
theorem filter_upd {p q : Nat → Bool} {j : Nat} : ∀ (l : List Nat), l.Nodup → j ∈ l → p j = true → q j = false → (∀ i, i ≠ j → q i = p i) → (l.filter p).length = (l.filter q).length + 1
  | [], _, hj, _, _, _ => by cases hj
  | a :: l, hn, hj, h1, h2, h3 => by
    rw [List.nodup_cons] at hn
    by_cases e : a = j
    · subst e
      rw [List.filter_cons_of_pos h1, List.filter_cons_of_neg (by simp [h2])]
      have : l.filter p = l.filter q := List.filter_congr fun i hi => (h3 i fun e => hn.1 (e ▸ hi)).symm
      rw [this]
      rfl
    · have hj' : j ∈ l := by
        rcases List.mem_cons.1 hj with h | h
        · exact absurd h.symm e
        · exact h
      have ih := filter_upd l hn.2 hj' h1 h2 h3
      by_cases ha : p a = true
      · rw [List.filter_cons_of_pos ha, List.filter_cons_of_pos (by rw [h3 a e]; exact ha)]
        simp [ih]
      · rw [List.filter_cons_of_neg ha, List.filter_cons_of_neg (by rw [h3 a e]; exact ha), ih]
theorem cnt_upd {j b : Nat} (hj : j < n) (hw : X j = .w) (hd : (T j).D ≤ now) : cnt n T X now = cnt n T (updS X j (.l b)) now + 1 := by
  refine filter_upd _ List.nodup_range (List.mem_range.2 hj) (by simp [hw, hd]) (by simp [updS]) fun i hi => ?_
  simp [updS, hi]
theorem cnt_le : cnt n T X now ≤ n := by
  unfold cnt
  exact Nat.le_trans (List.length_filter_le _ _) (by simp)
theorem cnt_zero (h : ∀ j, j < n → ¬ (X j = .w ∧ (T j).D ≤ now)) : cnt n T X now = 0 := by
  unfold cnt
  rw [List.length_eq_zero_iff, List.filter_eq_nil_iff]
  intro i hi
  simpa using h i (List.mem_range.1 hi)
/-- What Advance does to the timers. -/
def Rung (n : Nat) (T : Nat → TM) (now : Int) (X X' : Nat → St) : Prop := ∀ i, i < n → ((X i = .w ∧ (T i).D ≤ now) → ∃ b, X' i = .l b) ∧ (¬ (X i = .w ∧ (T i).D ≤ now) → X' i = X i)
theorem Sys.ring {L' : Lay} {j b : Nat} (S : Sys L K n T X now busy) (hj : j < n) (h : ∀ k i, ¬ (k = 0 ∧ i = 3) → i ≠ j ∨ k < 1 ∨ (18 ≤ k ∧ k ≠ 19) → L' (k, i) = L (k, i)) (ht : TmAt L' K.C j ((T j).late b)) : Sys L' K n T (updS X j (.l b)) now busy := by
  refine ⟨(h 0 0 (by omega) (by omega)).trans S.clk, (h 0 1 (by omega) (by omega)).trans S.N, (h 0 2 (by omega) (by omega)).trans S.B, fun i hi k h1 h2 => ?_, S.sl, fun i hi => (h 18 i (by omega) (by omega)).trans (S.due i hi), fun i h1 h2 => ⟨(h 17 i (by omega) (by omega)).trans (S.free i h1 h2).1, (h 18 i (by omega) (by omega)).trans (S.free i h1 h2).2⟩, S.le⟩
  unfold updS
  by_cases e : i = j
  · subst e
    rw [if_pos rfl]
    exact ht k h1 h2
  · rw [if_neg e, h k i (by omega) (.inl e)]
    exact S.tm i hi k h1 h2
end
end Go.Proofs.YtmnahfonnljobaaGreatDoor
/-
  Advance, whole. Conditions: none.
-/
set_option maxRecDepth 100000
set_option linter.unusedVariables false
set_option linter.unusedSimpArgs false
namespace Go.Proofs.YtmnahfonnljobaaGreatDoor
open Go.Proofs.YtmnahfonnljobaaGreatDoor.SX Go.Conc

section
variable {base : Nat} {W0 w : World} {L : Lay} {cs : List Frame} {fr frA : Frame} {K : CK} {n : Nat} {T : Nat → TM} {X : Nat → St} {now dd : Int}
theorem isSys_keep2 {L L' : Lay} (k : Keep2 L L') : ∀ r, isSys r = true → L' r = L r := fun r hr => k r (by rintro rfl; cases hr) (by rintro rfl; cases hr)
theorem Found.two {s d : Nat → Int} {f : Bool} {x y : Int} (F : Found s d now 16 f x y) (hf : f = true) : ∃ j : Nat, j < 16 ∧ s j = 2 ∧ d j ≤ now ∧ x = j ∧ y = 2 := F.1 hf
/-- All else than the clock's and its timers' roles and some of the walk's own. -/
def KeepO (L L' : Lay) : Prop := ∀ x, 5 ≤ x → L' (0, x) = L (0, x)
theorem ad_loop : ∀ (m : Nat) {L : Lay} {w : World} {X : Nat → St} {fr frA : Frame} {rung : Nat}, cnt n T X now = m → rung + m ≤ 16 → Sys L K n T X now 1 → On base W0 L w → LkIn K.C now fr → AdAt K.C now rung frA →
    Go1 base (G fr (frA :: cs)) w fun g' w' => ∃ fr' L' X', g' = G fr' cs ∧ On base W0 L' w' ∧ KeepO L L' ∧ Sys L' K n T X' now 0 ∧ Rung n T now X X' ∧ AdRet ((rung + m : Nat) : Int) fr' := by
  intro m
  induction m with
  | zero =>
    intro L w X fr frA rung hm hr S o hf hfA
    refine (Walk.trans (m := 0) (fun g' w' hd => ?_) (lk_all (s := slS n X) (d := duS n T) (fun i _ => sl_cases i) S.clk S.slot o hf)).any
    obtain ⟨fr1, L1, B, f, x, y, rfl, o1, k1, a1, F, r1⟩ := hd
    have S1 := S.keep (isSys_keep2 k1)
    cases f with
    | true =>
      exfalso
      obtain ⟨j, h1, h2, h3, _, _⟩ := F.two rfl
      obtain ⟨h4, h5⟩ := sl_two.1 h2
      have h6 : (T j).D ≤ now := by
        unfold duS at h3
        rwa [if_pos h4] at h3
      rw [cnt_upd (b := 0) h4 h5 h6] at hm
      omega
    | false =>
      refine Walk.weaken (fun g2 w2 hd => ?_) (ad_none S1.clk S1.B a1 o1 r1 hfA)
      obtain ⟨fr2, L2, rfl, o2, k2, b2, r2⟩ := hd
      have hk : ∀ r : Role, r ≠ (0, 2) → r ≠ (0, 3) → L2 r = L1 r := fun r h1 h2 => k2 r (by simp [h1, h2])
      refine ⟨fr2, L2, X, rfl, o2, fun x hx => (hk _ (by simp; omega) (by simp; omega)).trans (k1 _ (by simp; omega) (by simp; omega)), ?_, fun i hi => ⟨fun h => ?_, fun _ => rfl⟩, r2⟩
      · refine ⟨(hk _ (by simp) (by simp)).trans S1.clk, (hk _ (by simp) (by simp)).trans S1.N, b2, fun i hi k h1 h2 => (hk _ (by simp; omega) (by simp; omega)).trans (S1.tm i hi k h1 h2), S1.sl, fun i hi => (hk _ (by simp) (by simp)).trans (S1.due i hi), fun i h1 h2 => ⟨(hk _ (by simp) (by simp)).trans (S1.free i h1 h2).1, (hk _ (by simp) (by simp)).trans (S1.free i h1 h2).2⟩, S1.le⟩
      · exfalso
        have := F.2 rfl i (by have := S.le; omega)
        exact this ⟨sl_two.2 ⟨hi, h.1⟩, by unfold duS; rw [if_pos hi]; exact h.2⟩
  | succ m ih =>
    intro L w X fr frA rung hm hr S o hf hfA
    refine (Walk.trans (m := 0) (fun g' w' hd => ?_) (lk_all (s := slS n X) (d := duS n T) (fun i _ => sl_cases i) S.clk S.slot o hf)).any
    obtain ⟨fr1, L1, B, f, x, y, rfl, o1, k1, a1, F, r1⟩ := hd
    have S1 := S.keep (isSys_keep2 k1)
    cases f with
    | false =>
      exfalso
      have : cnt n T X now = 0 := cnt_zero fun j hj h => F.2 rfl j (by have := S.le; omega) ⟨sl_two.2 ⟨hj, h.1⟩, by unfold duS; rw [if_pos hj]; exact h.2⟩
      omega
    | true =>
      obtain ⟨j, h1, h2, h3, rfl, rfl⟩ := F.two rfl
      obtain ⟨h4, h5⟩ := sl_two.1 h2
      have h6 : (T j).D ≤ now := by
        unfold duS at h3
        rwa [if_pos h4] at h3
      have ht := S1.tm j h4
      rw [h5] at ht
      refine (Walk.trans (m := 0) (fun g2 w2 hd => ?_) (ad_one (t := T j) h1 (by omega) S1.clk (S1.sl j h4).1 (S1.sl j h4).2 ht a1 o1 r1 hfA)).any
      obtain ⟨fr2, fA2, L2, b, rfl, o2, k2, t2, _, f2, fA2'⟩ := hd
      have S2 := S1.ring h4 k2 t2
      have hc : cnt n T (updS X j (.l b)) now = m := by
        have := cnt_upd (b := b) h4 h5 h6
        omega
      have e1 : iop .add .i64 (rung : Int) 1 = ((rung + 1 : Nat) : Int) := lk_next (by omega)
      rw [e1] at fA2'
      refine Walk.weaken (fun g3 w3 hd => ?_) (ih hc (by omega) S2 o2 f2 fA2')
      obtain ⟨fr3, L3, X3, rfl, o3, k3, S3, R3, r3⟩ := hd
      refine ⟨fr3, L3, X3, rfl, o3, fun x hx => (k3 x hx).trans ((k2 0 x (by omega) (by omega)).trans (k1 _ (by simp; omega) (by simp; omega))), S3, fun i hi => ?_, ?_⟩
      · by_cases e : i = j
        · subst e
          have hn : updS X i (.l b) i = .l b := if_pos rfl
          have := (R3 i hi).2 (by rw [hn]; rintro ⟨h, _⟩; cases h)
          rw [hn] at this
          exact ⟨fun _ => ⟨b, this⟩, fun h => absurd ⟨h5, h6⟩ h⟩
        · have hn : updS X j (.l b) i = X i := if_neg e
          have := R3 i hi
          rw [hn] at this
          exact this
      · rw [show rung + (m + 1) = rung + 1 + m from by omega]
        exact r3
/-- Advance, from its call to its return. -/
theorem ad_all (h0 : 0 ≤ now) (hd0 : 0 ≤ dd) (hs : now + dd < 4611686018427387904) (S : Sys L K n T X now 0) (o : On base W0 L w) (hf : AdIn K.C dd fr) :
    Go1 base (G fr cs) w fun g' w' => ∃ fr' L' X', g' = G fr' cs ∧ On base W0 L' w' ∧ KeepO L L' ∧ Sys L' K n T X' (now + dd) 0 ∧ Rung n T (now + dd) X X' ∧ AdRet (cnt n T X (now + dd) : Nat) fr' := by
  refine (Walk.trans (m := 0) (fun g' w' hd => ?_) (ad_in S.clk S.N S.B h0 hd0 hs o hf)).any
  obtain ⟨fr1, frA, L1, rfl, o1, k1, n1, b1, f1, fA⟩ := hd
  have hk : ∀ r : Role, r ≠ (0, 1) → r ≠ (0, 2) → L1 r = L r := fun r h1 h2 => k1 r (by simp [h1, h2])
  have S1 : Sys L1 K n T X (now + dd) 1 := ⟨(hk _ (by simp) (by simp)).trans S.clk, n1, b1, fun i hi k h1 h2 => (hk _ (by simp; omega) (by simp; omega)).trans (S.tm i hi k h1 h2), S.sl, fun i hi => (hk _ (by simp) (by simp)).trans (S.due i hi), fun i h1 h2 => ⟨(hk _ (by simp) (by simp)).trans (S.free i h1 h2).1, (hk _ (by simp) (by simp)).trans (S.free i h1 h2).2⟩, S.le⟩
  have hc : cnt n T X (now + dd) ≤ 16 := Nat.le_trans cnt_le S.le
  refine Walk.weaken (fun g2 w2 hd => ?_) (ad_loop (rung := 0) _ rfl (by omega) S1 o1 f1 fA)
  obtain ⟨fr2, L2, X2, rfl, o2, k2, S2, R2, r2⟩ := hd
  rw [Nat.zero_add] at r2
  exact ⟨fr2, L2, X2, rfl, o2, fun x hx => (k2 x hx).trans (hk _ (by simp; omega) (by simp; omega)), S2, R2, r2⟩
end
end Go.Proofs.YtmnahfonnljobaaGreatDoor
/-
  Peek, Class and at as contracts. Conditions: none.
-/
set_option maxRecDepth 100000
set_option linter.unusedVariables false
set_option linter.unusedSimpArgs false
namespace Go.Proofs.YtmnahfonnljobaaGreatDoor
open Go.Proofs.YtmnahfonnljobaaGreatDoor.SX Go.Conc

noncomputable def pkM (gs gv : IE) (ge : AV) : List (AA × AV) := [(⟨.dyn 71, .lit 0⟩, ptr0 72), (⟨.dyn 71, .lit 2⟩, i64 gv), (⟨.dyn 71, .lit 3⟩, ge), (⟨.dyn 72, .lit 0⟩, i64 gs), (⟨.dyn 72, .lit 1⟩, TB)]
theorem pkW (st : Nat → Value) : seeF (runZ [] (pkM (.lit 0) (v 1) .nilIface) 137 [] (cfg (pkE st) [] [])) [4, 5, 6] (fun _ => []) = some (⟨24, 27, pkT [1,1], [], .run, .normal, [], [], [i64 (.lit 0), .nilIface, .bool (.lit false)]⟩, []) := by kernel_rfl
theorem pkF (st : Nat → Value) : seeF (runZ [] (pkM (.lit 2) (v 1) .nilIface) 134 [] (cfg (pkE st) [] [])) [4, 5, 6] (fun _ => []) = some (⟨24, 27, [.code .ret], [], .run, .normal, [], [], [i64 (v 1), .nilIface, .bool (.lit true)]⟩, []) := by kernel_rfl
theorem pkL (st : Nat → Value) : seeF (runZ [] (pkM (.lit 3) (.lit 0) (ltE 80)) 134 [] (cfg (pkE st) [] [])) [4, 5, 6] (fun _ => []) = some (⟨24, 27, [.code .ret], [], .run, .normal, [], [], [i64 (.lit 0), ltE 80, .bool (.lit true)]⟩, []) := by kernel_rfl
theorem pkLow (st : Nat → Value) : cfgLow 100 (cfg (pkE st) [] []) = true := by kernel_rfl
noncomputable def errM : List (AA × AV) := [(⟨.glob 0, .lit 0⟩, .iface 220 (.agg [.ptr (some ⟨.glob 3, .lit 31⟩)]))]
noncomputable def clE (st : Nat → Value) : AFrame := ⟨13, 10, tmpsOf 10 st [(0, ltE 80)], [.code (bodyOf Tryz.f13)], [], .run, .normal⟩
noncomputable def clT : List Item := [.code .ret, .code (pc (bodyOf Tryz.f13) [1,1,1,1])]
theorem clLate (st : Nat → Value) : seeF (runZ [] errM 222 [] (cfg (clE st) [] [])) [2] (fun _ => []) = some (⟨13, 10, clT, [], .run, .normal, [], [], [i64 (.lit 21)]⟩, []) := by kernel_rfl
theorem clLow (st : Nat → Value) : cfgLow 100 (cfg (clE st) [] []) = true := by kernel_rfl
noncomputable def rem1 (m : Int) : IE := .op .rem .i64 (v 1) (.lit m)
noncomputable def atE (m : Int) (st : Nat → Value) : AFrame := ⟨33, 14, tmpsOf 14 st [(0, i64 (v 1)), (1, i64 (.lit m))], [.code (bodyOf Tryz.f33)], [], .run, .normal⟩
theorem atPos (z : Bool) (st : Nat → Value) : seeF (runZ [(.cmp .lss (rem1 (Bool.rec 20 40 z)) (.lit 0), false)] [] 24 [] (cfg (atE (Bool.rec 20 40 z) st) [] [])) [4] (fun _ => []) = some (⟨33, 14, [.code .ret], [], .run, .normal, [], [], [i64 (rem1 (Bool.rec 20 40 z))]⟩, []) := by cases z <;> kernel_rfl
theorem atNeg (z : Bool) (st : Nat → Value) : seeF (runZ [(.cmp .lss (rem1 (Bool.rec 20 40 z)) (.lit 0), true)] [] 29 [] (cfg (atE (Bool.rec 20 40 z) st) [] [])) [4] (fun _ => []) = some (⟨33, 14, [.code .ret], [], .run, .normal, [], [], [i64 (.op .add .i64 (rem1 (Bool.rec 20 40 z)) (.lit (Bool.rec 20 40 z)))]⟩, []) := by cases z <;> kernel_rfl

abbrev PkIn (b : Nat) (fr : Frame) : Prop := FA 24 27 [.code (bodyOf Tryz.f24)] [] .normal [(0, ptrV b), (1, .pointer none)] fr
def St.done : St → Bool
  | .w => false
  | _ => true
def St.val : St → Int
  | .f x => x
  | _ => 0
def St.err : St → Value
  | .l b => ltV b
  | .a _ b => ltV b
  | _ => .nilIface
/-- Where Peek stands at its return. -/
noncomputable def pkEnd : St → List Item
  | .w => pkT [1,1]
  | _ => [.code .ret]
abbrev PkRet (x : St) (fr : Frame) : Prop := FA 24 27 (pkEnd x) [] .normal [(4, iV x.val), (5, x.err), (6, .bool x.done)] fr
section
variable {base : Nat} {W0 w : World} {L : Lay} {cs : List Frame} {fr : Frame} {C i : Nat} {t : TM}
theorem pk_mem {gs gv : IE} {ge : AV} {ρ : Env} {t : TM} (T : TmAt L C i t) (h71 : ρ.b 71 = t.b 8) (h72 : ρ.b 72 = t.b 9) (h1 : gs.ev ρ = t.gs) (h2 : gv.ev ρ = t.gv) (h3 : ge.ev ρ = t.ge) : ∀ p ∈ pkM gs gv ge, MemO L [] base W0 ρ p := by
  intro p hp
  have e8 := T 8 (by omega) (by omega)
  have e9 := T 9 (by omega) (by omega)
  simp only [pkM, List.mem_cons, List.not_mem_nil, or_false] at hp
  rcases hp with rfl | rfl | rfl | rfl | rfl
  · refine .inl ⟨(8, i), .obj 48 [ptrV (t.b 9), ptrV (t.b 10), iV t.gv, t.ge], ?_, (by simp), ?_⟩
    · show L (8, i) = some (ρ.b 71, _)
      rw [h71]; exact e8
    · show some (ptrV (t.b 9)) = some (ptrV (ρ.b 72))
      rw [h72]
  · refine .inl ⟨(8, i), .obj 48 [ptrV (t.b 9), ptrV (t.b 10), iV t.gv, t.ge], ?_, (by simp), ?_⟩
    · show L (8, i) = some (ρ.b 71, _)
      rw [h71]; exact e8
    · show some (iV t.gv) = some (iV (gv.ev ρ))
      rw [h2]
  · refine .inl ⟨(8, i), .obj 48 [ptrV (t.b 9), ptrV (t.b 10), iV t.gv, t.ge], ?_, (by simp), ?_⟩
    · show L (8, i) = some (ρ.b 71, _)
      rw [h71]; exact e8
    · show some t.ge = some (ge.ev ρ)
      rw [h3]
  · refine .inl ⟨(9, i), celV t.gs, ?_, (by simp), ?_⟩
    · show L (9, i) = some (ρ.b 72, _)
      rw [h72]; exact e9
    · show some (iV t.gs) = some (iV (gs.ev ρ))
      rw [h1]
  · refine .inl ⟨(9, i), celV t.gs, ?_, (by simp), ?_⟩
    · show L (9, i) = some (ρ.b 72, _)
      rw [h72]; exact e9
    · rfl
theorem pk_all {x : St} (T : TmAt L C i (stT t x)) (o : On base W0 L w) (hf : PkIn (t.b 8) fr) :
    Go1 base (G fr cs) w fun g' w' => ∃ fr', g' = G fr' cs ∧ On base W0 L w' ∧ PkRet x fr' := by
  have late : ∀ b, (stT t x).gs = 3 → (stT t x).gv = 0 → (stT t x).ge = ltV b → pkEnd x = [.code .ret] → x.val = 0 → x.err = ltV b → x.done = true → Go1 base (G fr cs) w fun g' w' => ∃ fr', g' = G fr' cs ∧ On base W0 L w' ∧ PkRet x fr' := by
    intro b h1 h2 h3 h4 h5 h6 h7
    let ρ : Env := mkE [] [(71, t.b 8), (72, t.b 9), (80, b)] []
    refine Walk.weaken (fun g' w' hd => ?_) (walkZ (frs := []) (callers := []) (bs := []) (mem := pkM (.lit 3) (.lit 0) (ltE 80)) (lives := fun _ => []) (cs := cs) o [] [] (pkL (stOf fr)) rfl rfl (pkLow _) (by kernel_rfl) (ρ := ρ) (hf.rel (.inl rfl) [(0, ptr0 71), (1, nilP)] rfl rfl) trivial (fun p hp => by cases hp) (pk_mem T (by rw [stT_b]; rfl) (by rw [stT_b]; rfl) h1.symm h2.symm h3.symm) (fun z hz => by cases hz) List.nodup_nil List.nodup_nil)
    obtain ⟨ρ1, fr1, frs1, rfl, o1, Ag, f1, fs1⟩ := hd
    obtain rfl := fats_none fs1
    have f2 := fa_agree Ag f1 (by kernel_rfl)
    refine ⟨fr1, rfl, ⟨o1.heap.sub fun r x e => e, o1.keeps, o1.le⟩, ?_⟩
    unfold PkRet
    rw [h4, h5, h6, h7]
    exact f2
  cases x with
  | w =>
    let ρ : Env := mkE [(1, 0)] [(71, t.b 8), (72, t.b 9)] []
    refine Walk.weaken (fun g' w' hd => ?_) (walkZ (frs := []) (callers := []) (bs := []) (mem := pkM (.lit 0) (v 1) .nilIface) (lives := fun _ => []) (cs := cs) o [] [] (pkW (stOf fr)) rfl rfl (pkLow _) (by kernel_rfl) (ρ := ρ) (hf.rel (.inl rfl) [(0, ptr0 71), (1, nilP)] rfl rfl) trivial (fun p hp => by cases hp) (pk_mem T rfl rfl rfl rfl rfl) (fun z hz => by cases hz) List.nodup_nil List.nodup_nil)
    obtain ⟨ρ1, fr1, frs1, rfl, o1, Ag, f1, fs1⟩ := hd
    obtain rfl := fats_none fs1
    exact ⟨fr1, rfl, ⟨o1.heap.sub fun r x e => e, o1.keeps, o1.le⟩, fa_agree Ag f1 (by kernel_rfl)⟩
  | f y =>
    let ρ : Env := mkE [(1, y)] [(71, t.b 8), (72, t.b 9)] []
    refine Walk.weaken (fun g' w' hd => ?_) (walkZ (frs := []) (callers := []) (bs := []) (mem := pkM (.lit 2) (v 1) .nilIface) (lives := fun _ => []) (cs := cs) o [] [] (pkF (stOf fr)) rfl rfl (pkLow _) (by kernel_rfl) (ρ := ρ) (hf.rel (.inl rfl) [(0, ptr0 71), (1, nilP)] rfl rfl) trivial (fun p hp => by cases hp) (pk_mem T rfl rfl rfl rfl rfl) (fun z hz => by cases hz) List.nodup_nil List.nodup_nil)
    obtain ⟨ρ1, fr1, frs1, rfl, o1, Ag, f1, fs1⟩ := hd
    obtain rfl := fats_none fs1
    exact ⟨fr1, rfl, ⟨o1.heap.sub fun r x e => e, o1.keeps, o1.le⟩, fa_agree Ag f1 (by kernel_rfl)⟩
  | l b => exact late b rfl rfl rfl rfl rfl rfl rfl
  | a y b => exact late b rfl rfl rfl rfl rfl rfl rfl
/-- The class of one that is late. -/
theorem cl_all {b : Nat} (h0 : OldAt base W0 0 0 (.iface 220 (.agg #[.pointer (some ⟨3, 31, none⟩)]))) (o : On base W0 L w) (hf : FA 13 10 [.code (bodyOf Tryz.f13)] [] .normal [(0, ltV b)] fr) :
    Go1 base (G fr cs) w fun g' w' => ∃ fr', g' = G fr' cs ∧ On base W0 L w' ∧ FA 13 10 clT [] .normal [(2, iV 21)] fr' := by
  let ρ : Env := mkE [] [(80, b)] []
  refine Walk.weaken (fun g' w' hd => ?_) (walkZ (frs := []) (callers := []) (bs := []) (mem := errM) (lives := fun _ => []) (cs := cs) o [] [] (clLate (stOf fr)) rfl rfl (clLow _) (by kernel_rfl) (ρ := ρ) (hf.rel (.inl rfl) [(0, ltE 80)] rfl rfl) trivial (fun p hp => by cases hp) (fun p hp => ?_) (fun z hz => by cases hz) List.nodup_nil List.nodup_nil)
  · obtain ⟨ρ1, fr1, frs1, rfl, o1, Ag, f1, fs1⟩ := hd
    obtain rfl := fats_none fs1
    exact ⟨fr1, rfl, ⟨o1.heap.sub fun r x e => e, o1.keeps, o1.le⟩, fa_agree Ag f1 (by kernel_rfl)⟩
  · obtain rfl := List.mem_singleton.1 hp
    exact .inr h0
end
end Go.Proofs.YtmnahfonnljobaaGreatDoor
/-
  at, as a contract. Conditions: none.
-/
set_option maxRecDepth 100000
set_option linter.unusedVariables false
set_option linter.unusedSimpArgs false
namespace Go.Proofs.YtmnahfonnljobaaGreatDoor
open Go.Proofs.YtmnahfonnljobaaGreatDoor.SX Go.Conc

/-- What at answers. -/
def atV (m x : Int) : Int := if iop .rem .i64 x m < 0 then iop .add .i64 (iop .rem .i64 x m) m else iop .rem .i64 x m
theorem rem_lt {m x : Int} (hm : 0 < m) (h : m ≤ 40) : iop .rem .i64 x m = x.tmod m ∧ -m < x.tmod m ∧ x.tmod m < m := by
  have h1 : x.tmod m < m := Int.tmod_lt_of_pos x hm
  have h2 : -m < x.tmod m := by
    have := Int.tmod_lt_of_pos (-x) hm
    rw [Int.neg_tmod] at this
    omega
  exact ⟨rfl, h2, h1⟩
theorem atV_lt {m x : Int} (hm : 0 < m) (h : m ≤ 40) : 0 ≤ atV m x ∧ atV m x < m := by
  obtain ⟨h1, h2, h3⟩ := rem_lt (x := x) hm h
  unfold atV
  rw [h1]
  split
  · have : iop .add .i64 (x.tmod m) m = x.tmod m + m := by
      show IntKind.wrap .i64 (x.tmod m + m) = _
      exact IntWalk.i64_in _ (by omega)
    rw [this]
    omega
  · omega
section
variable {base : Nat} {W0 w : World} {L : Lay} {cs : List Frame} {fr : Frame} {x : Int}
theorem atLow (m : Bool) (st : Nat → Value) : cfgLow 100 (cfg (atE (Bool.rec 20 40 m) st) [] []) = true := by cases m <;> kernel_rfl
theorem at_all (z : Bool) (o : On base W0 L w) (hf : FA 33 14 [.code (bodyOf Tryz.f33)] [] .normal [(0, iV x), (1, iV (Bool.rec 20 40 z))] fr) :
    Go1 base (G fr cs) w fun g' w' => ∃ fr', g' = G fr' cs ∧ On base W0 L w' ∧ FA 33 14 [.code .ret] [] .normal [(4, iV (atV (Bool.rec 20 40 z) x))] fr' := by
  let ρ : Env := mkE [(1, x)] [] []
  have hrel : FrRel Tryz.prog ρ (atE (Bool.rec 20 40 z) (stOf fr)) fr := hf.rel (.inl rfl) [(0, i64 (v 1)), (1, i64 (.lit (Bool.rec 20 40 z)))] rfl rfl
  by_cases hn : iop .rem .i64 x (Bool.rec 20 40 z) < 0
  · refine Walk.weaken (fun g' w' hd => ?_) (walkZ (frs := []) (callers := []) (bs := [(.cmp .lss (rem1 (Bool.rec 20 40 z)) (.lit 0), true)]) (mem := []) (lives := fun _ => []) (cs := cs) o [] [] (atNeg z (stOf fr)) rfl rfl (atLow z _) (by cases z <;> kernel_rfl) (ρ := ρ) hrel trivial (fun p hp => ?_) (fun p hp => by cases hp) (fun p hp => by cases hp) List.nodup_nil List.nodup_nil)
    · obtain ⟨ρ1, fr1, frs1, rfl, o1, Ag, f1, fs1⟩ := hd
      obtain rfl := fats_none fs1
      refine ⟨fr1, rfl, ⟨o1.heap.sub fun r x e => e, o1.keeps, o1.le⟩, ?_⟩
      have f2 := fa_agree Ag f1 (by cases z <;> kernel_rfl)
      unfold atV
      rw [if_pos hn]
      exact f2
    · obtain rfl := List.mem_singleton.1 hp
      exact decide_eq_true hn
  · refine Walk.weaken (fun g' w' hd => ?_) (walkZ (frs := []) (callers := []) (bs := [(.cmp .lss (rem1 (Bool.rec 20 40 z)) (.lit 0), false)]) (mem := []) (lives := fun _ => []) (cs := cs) o [] [] (atPos z (stOf fr)) rfl rfl (atLow z _) (by cases z <;> kernel_rfl) (ρ := ρ) hrel trivial (fun p hp => ?_) (fun p hp => by cases hp) (fun p hp => by cases hp) List.nodup_nil List.nodup_nil)
    · obtain ⟨ρ1, fr1, frs1, rfl, o1, Ag, f1, fs1⟩ := hd
      obtain rfl := fats_none fs1
      refine ⟨fr1, rfl, ⟨o1.heap.sub fun r x e => e, o1.keeps, o1.le⟩, ?_⟩
      have f2 := fa_agree Ag f1 (by cases z <;> kernel_rfl)
      unfold atV
      rw [if_neg hn]
      exact f2
    · obtain rfl := List.mem_singleton.1 hp
      exact decide_eq_false hn
end
end Go.Proofs.YtmnahfonnljobaaGreatDoor

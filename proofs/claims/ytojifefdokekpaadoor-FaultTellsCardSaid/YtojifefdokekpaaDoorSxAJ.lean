/-
  A symbolic run of the model, proved sound, and its use on the given code: a text of its parts. Conditions: none.
-/
import Derived.Test.YtojifefdokekpaaDoorSxAI
set_option maxRecDepth 100000
set_option linter.unusedVariables false
set_option linter.unusedSimpArgs false
namespace Go.Proofs.YtojifefdokekpaaDoor
open Go.Proofs.YtojifefdokekpaaDoor.SX Go.Conc
noncomputable def wkO : Array Oper := opsOf (pc (bodyOf Tryd.f25) [1,1,1,1,0])
noncomputable def wkT (l : List Nat) : List Item := [.inRegion wkO l, .code .ret]
noncomputable def wkF (t : List Item) (l : List (Nat × AV)) (st : Nat → Value) : AFrame := ⟨25, 42, tmpsOf 42 st l, t, [], .run, .normal⟩
def wkL (n : Nat) : List Nat := (List.range (30 - n)).map (· + n)
noncomputable def wkP : List (Nat × ABlk) := [(105, .cells [nilP] 43), (104, .cells [.iface 3 (i64 (.lit 7))] 55), (101, .cells [i64 (.lit 3), .iface 40 (ptr0 100)] 57), (100, .cells [i64 (.lit (-7))] 49)]
theorem wk1 (st : Nat → Value) : seeF (runZ [] [] 153 [105, 104, 101, 100] (cfg (wkF [.code (bodyOf Tryd.f25)] [] st) [] [])) [2, 3, 4, 1, 15, 16] noL = some (⟨25, 42, wkT (wkL 4), [], .run, .normal, [], wkP, [i64 (.lit 0), .iface 43 (ptr0 104), ptr0 105, .iface 44 (ptr0 101), TB, .iface 44 (ptr0 101)]⟩, []) := by kernel_rfl
theorem wk1Low (st : Nat → Value) : cfgLow 100 (cfg (wkF [.code (bodyOf Tryd.f25)] [] st) [] []) = true := by kernel_rfl
def wkText : List UInt8 := [51, 58, 32, 102, 97, 105, 108, 101, 100, 32, 45, 55]
theorem wkText_is : txt [3] 1 (-7) = wkText := by decide +kernel
noncomputable def wkE2 (st : Nat → Value) : AFrame := wkF (wkT (wkL 5)) [(2, i64 (.lit 0)), (3, .iface 43 (ptr0 61)), (4, ptr0 70), (1, .iface 44 (.opq 60)), (15, TB), (17, .str ⟨wkText.toArray⟩)] st
theorem wk2 (st : Nat → Value) : seeF (runZ [] [] 4 [] (cfg (wkE2 st) [] [])) [2, 3, 4, 20, 21] noL = some (⟨25, 42, wkT (wkL 9), [], .run, .normal, [], [], [i64 (.lit 0), .iface 43 (ptr0 61), ptr0 70, TB, .iface 44 (.opq 60)]⟩, []) := by kernel_rfl
theorem wk2Low (st : Nat → Value) : cfgLow 100 (cfg (wkE2 st) [] []) = true := by kernel_rfl
noncomputable def wkE3 (st : Nat → Value) : AFrame := wkF (wkT (wkL 10)) [(2, i64 (.lit 0)), (3, .iface 43 (ptr0 61)), (4, ptr0 70), (20, TB), (22, i64 (.lit 23))] st
noncomputable def wkQ : List (Nat × ABlk) := [(70, .cells [nilP] 43)]
noncomputable def wkM : List (AA × AV) := [(⟨.glob 1, .lit 0⟩, rty 27), (⟨.dyn 61, .lit 0⟩, .iface 3 (i64 (.lit 7)))]
theorem wk3 (st : Nat → Value) : seeF (runZ [] wkM 130 [] (cfg (wkE3 st) [] wkQ)) [0] noL = some (⟨25, 42, .code .ret :: [], [], .run, .normal, [], [], [TB]⟩, []) := by kernel_rfl
theorem wk3Low (st : Nat → Value) : cfgLow 100 (cfg (wkE3 st) [] wkQ) = true := by kernel_rfl
theorem ent25 : enterA Tryd.prog 25 [] .normal = .ok ⟨25, 42, entT 25 [], [.code (bodyOf Tryd.f25)], [], .run, .normal⟩ := by kernel_rfl
theorem works_all {w : World} (hty : TypeAt w) (ht : TabAt w) : Ans 25 #[] w fun v w' => Fresh w w' ∧ v = .bool true := by
  refine ans_of fun cs => ?_
  refine (pieceI (ρ := mkE [] [] []) [] wkP (wk1 (stOf _)) rfl rfl (wk1Low _) (by kernel_rfl) ((enter0 ent25).rel (.inl rfl) [] rfl rfl) (fun q hq => by cases hq) (fun q hq => by cases hq) (fun q hq => by cases hq) List.nodup_nil (of_decide_eq_true (by kernel_rfl))).trans fun g1 w1 hd => ?_
  obtain ⟨ρ', fr1, rfl, kp, Ag, F1, bl, inj⟩ := hd
  have own0 : ∀ q, ownP (mkE [] [] []) w [] q → w.heap.size ≤ q := fun q hq => hq.elim id fun ⟨y, hy, _⟩ => (by cases hy)
  have f1 : Fresh w w1 := kp.mono own0
  have hT := (bl _ (List.mem_of_getElem? (l := wkP) (i := 0) rfl)).2
  have gT := own0 _ (bl _ (List.mem_of_getElem? (l := wkP) (i := 0) rfl)).1
  have hP := (bl _ (List.mem_of_getElem? (l := wkP) (i := 1) rfl)).2
  have hA := (bl _ (List.mem_of_getElem? (l := wkP) (i := 2) rfl)).2
  have hF := (bl _ (List.mem_of_getElem? (l := wkP) (i := 3) rfl)).2
  have hne : ρ'.b 105 ≠ ρ'.b 104 := fun e => by
    have := inj _ (List.mem_of_getElem? (l := wkP) (i := 0) rfl) _ (List.mem_of_getElem? (l := wkP) (i := 1) rfl) e
    cases this
  have hE : ErrAt w1 (.iface 44 (ptrV (ρ'.b 101))) [3] 1 (-7) := .at' _ 3 _ [] 1 (-7) (blk_cell hA (i := 0) rfl) (blk_cell hA (i := 1) rfl) (by decide) (.failed (ρ'.b 100) (-7) (blk_cell hF (i := 0) rfl))
  have F1' : FA 25 42 (wkT (wkL 4)) [] .normal [(2, iV 0), (3, .iface 43 (ptrV (ρ'.b 104))), (4, ptrV (ρ'.b 105)), (1, .iface 44 (ptrV (ρ'.b 101))), (15, .bool true), (16, .iface 44 (ptrV (ρ'.b 101)))] fr1 := F1
  obtain ⟨t, p, e1, hT7, tell⟩ := err_all hE (by decide) (fun x hx => by rw [List.mem_singleton.1 hx]; exact ⟨by decide, by decide⟩) ⟨by decide, by decide⟩ (by decide)
  cases e1
  refine (op_call (ρ := mkE [] [] [(50, ptrV (ρ'.b 101))]) (lA := [(15, TB), (16, .iface 44 (.opq 50))]) (bs := []) (mem := []) (f := 19) (args := [.opq 50]) (d := 17) (Q := fun v w' => Fresh w1 w' ∧ v = tV (txt [3] 1 (-7))) F1' (fun q hq => ?_) (fun st => by kernel_rfl) (fun st => by kernel_rfl) (fun st => by kernel_rfl) (fun p hp => by cases hp) (fun p hp => by cases hp) (by kernel_rfl) (by decide) rfl (fun w2 f2 => (tell w2 f2 (ht.keep (f1.trans f2))).mono fun v w3 O => ⟨f2.trans O.1, O.2⟩)).trans fun g2 w2 hd2 => ?_
  · rcases List.mem_cons.1 hq with rfl | hq
    · exact List.mem_of_getElem? (i := 4) rfl
    · obtain rfl := List.mem_singleton.1 hq
      exact List.mem_of_getElem? (i := 5) rfl
  obtain ⟨fr2, vv, rfl, ⟨f2, rfl⟩, F2⟩ := hd2
  rw [wkText_is] at F2
  have F2' : FA 25 42 (wkT (wkL 5)) [] .normal [(2, iV 0), (3, .iface 43 (ptrV (ρ'.b 104))), (4, ptrV (ρ'.b 105)), (1, .iface 44 (ptrV (ρ'.b 101))), (15, .bool true), (17, tV wkText)] fr2 := F2.sub fun q hq => by
    simp only [List.mem_cons, List.not_mem_nil, or_false] at hq
    rcases hq with rfl | rfl | rfl | rfl | rfl | rfl
    · exact List.mem_cons_of_mem _ (List.mem_filter.2 ⟨List.mem_of_getElem? (i := 0) rfl, rfl⟩)
    · exact List.mem_cons_of_mem _ (List.mem_filter.2 ⟨List.mem_of_getElem? (i := 1) rfl, rfl⟩)
    · exact List.mem_cons_of_mem _ (List.mem_filter.2 ⟨List.mem_of_getElem? (i := 2) rfl, rfl⟩)
    · exact List.mem_cons_of_mem _ (List.mem_filter.2 ⟨List.mem_of_getElem? (i := 3) rfl, rfl⟩)
    · exact List.mem_cons_of_mem _ (List.mem_filter.2 ⟨List.mem_of_getElem? (i := 4) rfl, rfl⟩)
    · exact List.mem_cons_self ..
  refine (pieceF (ρ := mkE [] [(61, ρ'.b 104), (70, ρ'.b 105)] [(60, ptrV (ρ'.b 101))]) (wk2 (stOf fr2)) rfl rfl (wk2Low _) (by kernel_rfl) (F2'.rel (.inl rfl) [(2, i64 (.lit 0)), (3, .iface 43 (ptr0 61)), (4, ptr0 70), (1, .iface 44 (.opq 60)), (15, TB), (17, .str ⟨wkText.toArray⟩)] rfl rfl) (fun q hq => by cases hq) (fun q hq => by cases hq) List.nodup_nil).trans fun g3 w3 hd3 => ?_
  obtain ⟨ρ3, fr3, rfl, f3, Ag3, F3, _⟩ := hd3
  have b61 : ρ3.b 61 = ρ'.b 104 := Ag3.b 61 (by decide)
  have b70 : ρ3.b 70 = ρ'.b 105 := Ag3.b 70 (by decide)
  have v60 : ρ3.v 60 = ptrV (ρ'.b 101) := congrFun Ag3.v 60
  have F3' : FA 25 42 (wkT (wkL 9)) [] .normal [(2, iV 0), (3, .iface 43 (ptrV (ρ'.b 104))), (4, ptrV (ρ'.b 105)), (20, .bool true), (21, .iface 44 (ptrV (ρ'.b 101)))] fr3 := by
    rw [← b61, ← b70, ← v60]; exact F3
  refine (op_call (ρ := mkE [] [] [(50, .iface 44 (ptrV (ρ'.b 101)))]) (lA := [(20, TB), (21, .opq 50)]) (bs := []) (mem := []) (f := 6) (args := [.opq 50]) (d := 22) (Q := fun v w' => Fresh w3 w' ∧ v = iV 23) F3' (fun q hq => ?_) (fun st => by kernel_rfl) (fun st => by kernel_rfl) (fun st => by kernel_rfl) (fun p hp => by cases hp) (fun p hp => by cases hp) (by kernel_rfl) (by decide) rfl (fun w4 f4 => (class_all (hE.keep (f2.trans (f3.trans f4))) ((f1.trans (f2.trans (f3.trans f4))).cell hty)).mono fun v w5 O => ⟨f4.trans O.1, O.2⟩)).trans fun g4 w4 hd4 => ?_
  · rcases List.mem_cons.1 hq with rfl | hq
    · exact List.mem_of_getElem? (i := 3) rfl
    · obtain rfl := List.mem_singleton.1 hq
      exact List.mem_of_getElem? (i := 4) rfl
  obtain ⟨fr4, vv, rfl, ⟨f4, rfl⟩, F4⟩ := hd4
  have F4' : FA 25 42 (wkT (wkL 10)) [] .normal [(2, iV 0), (3, .iface 43 (ptrV (ρ'.b 104))), (4, ptrV (ρ'.b 105)), (20, .bool true), (22, iV 23)] fr4 := F4.sub fun q hq => by
    simp only [List.mem_cons, List.not_mem_nil, or_false] at hq
    rcases hq with rfl | rfl | rfl | rfl | rfl
    · exact List.mem_cons_of_mem _ (List.mem_filter.2 ⟨List.mem_of_getElem? (i := 0) rfl, rfl⟩)
    · exact List.mem_cons_of_mem _ (List.mem_filter.2 ⟨List.mem_of_getElem? (i := 1) rfl, rfl⟩)
    · exact List.mem_cons_of_mem _ (List.mem_filter.2 ⟨List.mem_of_getElem? (i := 2) rfl, rfl⟩)
    · exact List.mem_cons_of_mem _ (List.mem_filter.2 ⟨List.mem_of_getElem? (i := 3) rfl, rfl⟩)
    · exact List.mem_cons_self ..
  have f14 : Fresh w1 w4 := f2.trans (f3.trans f4)
  have hT4 : (Blk.obj 43 [.pointer none]).at Tryd.prog w4 (ρ'.b 105) := blk_keep hT f14
  have cP : w4.cell? ⟨ρ'.b 104, 0, none⟩ = some (.iface 3 (iV 7)) := f14.cell (blk_cell hP (i := 0) rfl)
  have cT : TypeAt w4 := (f1.trans f14).cell hty
  refine (pieceW (ρ := mkE [] [(61, ρ'.b 104), (70, ρ'.b 105)] []) wkQ [] (wk3 (stOf fr4)) rfl rfl (wk3Low _) (by kernel_rfl) (F4'.rel (.inl rfl) [(2, i64 (.lit 0)), (3, .iface 43 (ptr0 61)), (4, ptr0 70), (20, TB), (22, i64 (.lit 23))] rfl rfl) (fun q hq => by cases hq) (fun q hq => ?_) (fun q hq => ?_) one_nodup List.nodup_nil).trans fun g5 w5 hd5 => ?_
  · have hq' : q = (⟨.glob 1, .lit 0⟩, rty 27) ∨ q = (⟨.dyn 61, .lit 0⟩, .iface 3 (i64 (.lit 7))) := by simpa [wkM] using hq
    rcases hq' with rfl | rfl
    · refine ⟨cT, fun y hy => ?_⟩
      obtain rfl := List.mem_singleton.1 hy
      show ρ'.b 105 ≠ 1
      have := cellLt hty
      have h1 : 1 < w.heap.size := this
      have h2 : w.heap.size ≤ ρ'.b 105 := gT
      omega
    · refine ⟨cP, fun y hy => ?_⟩
      obtain rfl := List.mem_singleton.1 hy
      exact hne
  · obtain rfl := List.mem_singleton.1 hq
    exact ⟨.obj 43 [.pointer none], hT4, rfl, rfl⟩
  obtain ⟨ρ5, fr5, rfl, kp5, Ag5, F5, _⟩ := hd5
  refine (leave_tmp (fun st => by kernel_rfl) F5 (List.mem_singleton.2 rfl)).mono fun g6 w6 hd6 => ?_
  obtain ⟨fr6, rfl, rfl, hL⟩ := hd6
  refine ⟨fr6, _, rfl, hL, Keeps.trans (f1.trans f14) (kp5.mono fun q hq => ?_), rfl⟩
  rcases hq with hq | ⟨y, hy, e⟩
  · exact Nat.le_trans (f1.trans f14).size hq
  · obtain rfl := List.mem_singleton.1 hy
    have e : ρ'.b 105 = q := e
    rw [← e]; exact gT
end Go.Proofs.YtojifefdokekpaaDoor
set_option maxRecDepth 100000
set_option linter.unusedVariables false
set_option linter.unusedSimpArgs false
namespace Go.Proofs.YtojifefdokekpaaDoor
open Go.Proofs.YtojifefdokekpaaDoor.SX Go.Conc
def preN (ops : Array Oper) (i : Nat) : List Nat := match ops[i]? with
  | some o => (o.after.toList.filter fun e => Region.binds .any e).map (·.on)
  | none => []
theorem ready_pre {ops : Array Oper} {r : List Nat} {i : Nat} (h : i ∈ readyIn ops r) : i < ops.size ∧ i ∉ r ∧ ∀ p ∈ preN ops i, p ∈ r := by
  refine ⟨(readyIn_mem h).1, (readyIn_mem h).2, fun p hp => ?_⟩
  obtain ⟨_, o, ho, hq⟩ := ready_iff.1 h
  unfold preN at hp
  rw [ho] at hp
  obtain ⟨e, he, rfl⟩ := List.mem_map.1 hp
  obtain ⟨h1, h2⟩ := List.mem_filter.1 he
  exact hq e h1 h2
theorem sched_end {ops : Array Oper} {r : List Nat} (h : Sched ops r []) {i : Nat} (hi : i < ops.size) (hr : i ∉ r) (hp : ∀ p ∈ preN ops i, p ∈ r) : False := by
  have h' : readyIn ops r = [] := h
  have : i ∈ readyIn ops r := ready_iff.2 ⟨hr, ops[i], Array.getElem?_eq_getElem hi, fun e he hb => hp _ (by
    unfold preN
    rw [Array.getElem?_eq_getElem hi]
    exact List.mem_map.2 ⟨e, List.mem_filter.2 ⟨he, hb⟩, rfl⟩)⟩
  rw [h'] at this
  cases this
theorem sched_full {ops : Array Oper} (hp : ∀ i, i < ops.size → ∀ p ∈ preN ops i, p < i) {r : List Nat} (hs : Sched ops r []) : ∀ i, i < ops.size → i ∈ r := by
  intro i
  induction i using Nat.strongRecOn with
  | ind i ih =>
    intro hi
    refine Classical.byContradiction fun hr => sched_end hs hi hr fun p hpp => ih p (hp i hi p hpp) (Nat.lt_trans (hp i hi p hpp) hi)
section
variable {fn nt : Nat} {ops : Array Oper} {k : List Item} {b : List (Nat × Value)} {cs : List Frame}
structure DrG (fn nt : Nat) (ops : Array Oper) (k : List Item) (b : List (Nat × Value)) (nm : Nat → Nat) (val : Nat → Value → World → Prop) (r l : List Nat) (fr : Frame) (w : World) : Prop where
  ex : ∃ lv, FA fn nt (.inRegion ops l :: k) [] .normal lv fr ∧ (∀ x ∈ b, x ∈ lv) ∧ ∀ i ∈ r, ∃ v, (nm i, v) ∈ lv ∧ val i v w
theorem draw_in {w : World} {fr : Frame} {id : Nat} (hf : FA fn nt (.code (.region id ops true) :: k) [] .normal b fr) :
    Goes (G fr cs) w fun g' w' => ∃ l fr', g' = G fr' cs ∧ Fresh w w' ∧ Sched ops [] l ∧ FA fn nt (.inRegion ops l :: k) [] .normal b fr' := by
  obtain ⟨⟨tm, rfl, h2, h3⟩, h4, h5⟩ := hf
  have s := step_region_draw (P := Tryd.prog) (b := Go.Proofs.YtojifefdokekpaaDoor.SX.mkF fn .normal) (a := ⟨tm, []⟩) (ops := ops) (id := id) (k := k) (cs := cs) (w := w)
  rw [show Tryd.prog.follows .mixedOrders = true from mixed] at s
  exact ⟨_, _, .head s (.refl _ _), _, _, rfl, ⟨fun _ _ => rfl, Nat.le_refl _, rfl, rfl, rfl⟩, schedule_sched ops _, ⟨tm, rfl, h2, h3⟩, h4, h5⟩
theorem draw_all {nm : Nat → Nat} {val : Nat → Value → World → Prop} (hp : ∀ i, i < ops.size → ∀ p ∈ preN ops i, p < i) (hb : ∀ i, i < ops.size → ∀ x ∈ b, x.1 ≠ nm i) (hn : ∀ i j, i < ops.size → j < ops.size → i ≠ j → nm j ≠ nm i) (keep : ∀ i v w w', val i v w → Fresh w w' → val i v w')
    {w0 : World} (step : ∀ i, i < ops.size → ∀ (l : List Nat) (w : World) (fr : Frame) (lv : List (Nat × Value)), Fresh w0 w → FA fn nt (.inRegion ops (i :: l) :: k) [] .normal lv fr → (∀ x ∈ b, x ∈ lv) → (∀ p ∈ preN ops i, ∃ v, (nm p, v) ∈ lv ∧ val p v w) →
      Goes (G fr cs) w fun g' w' => ∃ fr' v, g' = G fr' cs ∧ Fresh w w' ∧ val i v w' ∧ FA fn nt (.inRegion ops l :: k) [] .normal (lvPut (nm i) v lv) fr') :
    ∀ (l r : List Nat) {w : World} {fr : Frame}, Fresh w0 w → (∀ i ∈ r, i < ops.size) → Sched ops r l → DrG fn nt ops k b nm val r l fr w → Goes (G fr cs) w fun g' w' => ∃ fr' lv, g' = G fr' cs ∧ Fresh w0 w' ∧ FA fn nt (.inRegion ops [] :: k) [] .normal lv fr' ∧ (∀ x ∈ b, x ∈ lv) ∧ ∀ i, i < ops.size → ∃ v, (nm i, v) ∈ lv ∧ val i v w'
  | [], r, w, fr, hi, hr, hs, D => by
    obtain ⟨lv, h1, h2, h3⟩ := D.ex
    exact .here ⟨fr, lv, rfl, hi, h1, h2, fun i hlt => h3 i (sched_full hp hs i hlt)⟩
  | i :: l, r, w, fr, hi, hr, hs, D => by
    obtain ⟨lv, h1, h2, h3⟩ := D.ex
    obtain ⟨q1, q2, q3⟩ := ready_pre hs.1
    refine (step i q1 l w fr lv hi h1 h2 fun p hpp => h3 p (q3 p hpp)).trans fun g1 w1 hd => ?_
    obtain ⟨fr1, v, rfl, f1, hv, F1⟩ := hd
    refine draw_all hp hb hn keep step l (i :: r) (hi.trans f1) (fun j hj => ?_) hs.2 ⟨_, F1, fun x hx => ?_, fun j hj => ?_⟩
    · rcases List.mem_cons.1 hj with rfl | hj
      · exact q1
      · exact hr j hj
    · exact List.mem_cons_of_mem _ (List.mem_filter.2 ⟨h2 x hx, by simpa using hb i q1 x hx⟩)
    · rcases List.mem_cons.1 hj with rfl | hj
      · exact ⟨v, List.mem_cons_self .., hv⟩
      · obtain ⟨u, h4, h5⟩ := h3 j hj
        refine ⟨u, List.mem_cons_of_mem _ (List.mem_filter.2 ⟨h4, ?_⟩), keep _ _ _ _ h5 f1⟩
        have := hn i j q1 (hr j hj) fun e => q2 (e ▸ hj)
        simpa using this
end
end Go.Proofs.YtojifefdokekpaaDoor
set_option maxRecDepth 100000
set_option linter.unusedVariables false
set_option linter.unusedSimpArgs false
namespace Go.Proofs.YtojifefdokekpaaDoor
open Go.Proofs.YtojifefdokekpaaDoor.SX Go.Conc
noncomputable def mnQ (l : List Nat) : Code := pc (bodyOf Tryd.f3) l
noncomputable def mnF (t : List Item) (l : List (Nat × AV)) (st : Nat → Value) : AFrame := ⟨3, 164, tmpsOf 164 st l, t, [], .run, .normal⟩
noncomputable def mnT1 (l : List Nat) : List Item := [.inRegion (opsOf (mnQ [1,0])) l, .code (mnQ [1,1])]
noncomputable def mnT2 (l : List Nat) : List Item := [.inRegion (opsOf (mnQ [1,1,0])) l, .code (mnQ [1,1,1])]
noncomputable def mnT3 : List Item := [.code (mnQ [1,1,1,0,0]), .code (mnQ [1,1,1,0,1]), .code (mnQ [1,1,1,1])]
theorem mnA (z : Bool) (st : Nat → Value) : seeF (runZ [] [] 8 [100] (cfg (mnF [.code (bodyOf Tryd.f3)] [(0, exA z), (1, i64 (v 3))] st) [] [])) [1, 2, 4, 16] noL = some (⟨3, 164, mnT1 [1, 2], [], .run, .normal, [], [(100, exB z)], [i64 (v 3), ptr0 100, FB, exA z]⟩, []) := by cases z <;> kernel_rfl
theorem mnALow (z : Bool) (st : Nat → Value) : cfgLow 100 (cfg (mnF [.code (bodyOf Tryd.f3)] [(0, exA z), (1, i64 (v 3))] st) [] []) = true := by cases z <;> kernel_rfl
noncomputable def mnP : List (Nat × ABlk) := [(61, .cells [i64 (v 11), i64 (v 12), .opq 63] 24)]
theorem mnB (z : Bool) (st : Nat → Value) : seeF (runZ [] [] 5 [61] (cfg (mnF (mnT1 [2]) [(1, i64 (v 3)), (2, ptr0 61), (4, FB), (17, exA z)] st) [] mnP)) [1, 2, 4, 18] noL = some (⟨3, 164, mnT2 [1, 2], [], .run, .normal, [], [(61, exB z)], [i64 (v 3), ptr0 61, FB, exA z]⟩, []) := by cases z <;> kernel_rfl
theorem mnBLow (z : Bool) (st : Nat → Value) : cfgLow 100 (cfg (mnF (mnT1 [2]) [(1, i64 (v 3)), (2, ptr0 61), (4, FB), (17, exA z)] st) [] mnP) = true := by cases z <;> kernel_rfl
theorem mnC (st : Nat → Value) : seeF (runZ [] [] 4 [] (cfg (mnF (mnT2 [2]) [(1, i64 (v 3)), (2, ptr0 61), (4, FB), (19, .opq 60)] st) [] [])) [1, 2, 4, 5] noL = some (⟨3, 164, mnT3, [], .run, .normal, [], [], [i64 (v 3), ptr0 61, FB, .opq 60]⟩, []) := by kernel_rfl
theorem mnCLow (st : Nat → Value) : cfgLow 100 (cfg (mnF (mnT2 [2]) [(1, i64 (v 3)), (2, ptr0 61), (4, FB), (19, .opq 60)] st) [] []) = true := by kernel_rfl
theorem ent3 : enterA Tryd.prog 3 [.opq 0, .opq 1] .normal = .ok ⟨3, 164, entT 3 [.opq 0, .opq 1], [.code (bodyOf Tryd.f3)], [], .run, .normal⟩ := by kernel_rfl
def isDraw (c : Code) : Bool := match c with
  | .region _ _ true => true
  | _ => false
noncomputable def r3O : Array Oper := opsOf (mnQ [1,1,1,0,0])
theorem r3Draw : isDraw (mnQ [1,1,1,0,0]) = true := by kernel_rfl
theorem r3Size : r3O.size = 24 := by kernel_rfl
theorem r3Pre : ((List.range 24).all fun i => (preN r3O i).all fun p => Nat.blt p i) = true := by kernel_rfl
end Go.Proofs.YtojifefdokekpaaDoor
set_option maxRecDepth 100000
set_option linter.unusedVariables false
set_option linter.unusedSimpArgs false
namespace Go.Proofs.YtojifefdokekpaaDoor
open Go.Proofs.YtojifefdokekpaaDoor.SX Go.Conc
structure OpV (nt : Nat) (ops : Array Oper) (i : Nat) (bs : List (BE × Bool)) (mem : List (AA × AV)) (lA : List (Nat × AV)) (a : AV) (d : Nat) : Prop where
  want : ∀ st, wantA bs mem (tmpsOf nt st lA) ops i = .ok true
  op : ∀ st, opA bs mem (tmpsOf nt st lA) ops i = .ok (.value a, hN)
  low : ∀ st, lowT bs mem (tmpsOf nt st lA) = true
  dst : dstOf ops i = some d
  alow : AV.low 100 a = true
structure OpS (nt : Nat) (ops : Array Oper) (i : Nat) (lA : List (Nat × AV)) (d : Nat) : Prop where
  want : ∀ st, wantA [] [] (tmpsOf nt st lA) ops i = .ok false
  low : ∀ st, lowT [] [] (tmpsOf nt st lA) = true
  dst : dstOf ops i = some d
structure OpC (nt : Nat) (ops : Array Oper) (i : Nat) (lA : List (Nat × AV)) (f : FuncId) (args : List AV) (d : Nat) : Prop where
  want : ∀ st, wantA [] [] (tmpsOf nt st lA) ops i = .ok true
  op : ∀ st, opA [] [] (tmpsOf nt st lA) ops i = .ok (.enter f args, hN)
  low : ∀ st, lowT [] [] (tmpsOf nt st lA) = true
  dst : dstOf ops i = some d
  alow : AV.lows 100 args = true
noncomputable def errM : List (AA × AV) := [(⟨.dyn 61, .lit 0⟩, .opq 40), (⟨.dyn 61, .lit 1⟩, .opq 41), (⟨.dyn 61, .lit 2⟩, .opq 42)]
noncomputable def errA : AV := .agg [.opq 40, .opq 41, .opq 42]
theorem r3_0 : OpV 164 r3O 0 [] [] [(5, .opq 50)] (.opq 50) 20 := ⟨fun st => by kernel_rfl, fun st => by kernel_rfl, fun st => by kernel_rfl, by kernel_rfl, rfl⟩
theorem r3_2 : OpV 164 r3O 2 [] errM [(2, ptr0 61)] (errA) 22 := ⟨fun st => by kernel_rfl, fun st => by kernel_rfl, fun st => by kernel_rfl, by kernel_rfl, rfl⟩
theorem r3_4 : OpV 164 r3O 4 [nq (v 5)] [] [(21, i64 (v 5)), (23, i64 (v 5))] (FB) 24 := ⟨fun st => by kernel_rfl, fun st => by kernel_rfl, fun st => by kernel_rfl, by kernel_rfl, rfl⟩
theorem r3_5 : OpV 164 r3O 5 [] [] [(24, FB)] (FB) 25 := ⟨fun st => by kernel_rfl, fun st => by kernel_rfl, fun st => by kernel_rfl, by kernel_rfl, rfl⟩
theorem r3_6 : OpV 164 r3O 6 [] [] [(25, FB), (5, .opq 50)] (.opq 50) 26 := ⟨fun st => by kernel_rfl, fun st => by kernel_rfl, fun st => by kernel_rfl, by kernel_rfl, rfl⟩
theorem r3_8 : OpV 164 r3O 8 [] errM [(25, FB), (2, ptr0 61)] (errA) 28 := ⟨fun st => by kernel_rfl, fun st => by kernel_rfl, fun st => by kernel_rfl, by kernel_rfl, rfl⟩
theorem r3_11 : OpV 164 r3O 11 [] [] [(25, FB), (30, TB)] (FB) 31 := ⟨fun st => by kernel_rfl, fun st => by kernel_rfl, fun st => by kernel_rfl, by kernel_rfl, rfl⟩
theorem r3_12 : OpV 164 r3O 12 [] [] [(25, FB), (31, FB)] (FB) 32 := ⟨fun st => by kernel_rfl, fun st => by kernel_rfl, fun st => by kernel_rfl, by kernel_rfl, rfl⟩
theorem r3_13 : OpV 164 r3O 13 [] [] [(32, FB)] (FB) 33 := ⟨fun st => by kernel_rfl, fun st => by kernel_rfl, fun st => by kernel_rfl, by kernel_rfl, rfl⟩
theorem r3_14 : OpV 164 r3O 14 [] [] [(33, FB), (5, .opq 50)] (.opq 50) 34 := ⟨fun st => by kernel_rfl, fun st => by kernel_rfl, fun st => by kernel_rfl, by kernel_rfl, rfl⟩
theorem r3_15n : OpV 164 r3O 15 [] [] [(33, FB), (34, .nilIface)] (FB) 35 := ⟨fun st => by kernel_rfl, fun st => by kernel_rfl, fun st => by kernel_rfl, by kernel_rfl, rfl⟩
theorem r3_16n : OpV 164 r3O 16 [] [] [(33, FB), (35, FB)] (FB) 36 := ⟨fun st => by kernel_rfl, fun st => by kernel_rfl, fun st => by kernel_rfl, by kernel_rfl, rfl⟩
theorem r3_16t : OpV 164 r3O 16 [] [] [(33, FB), (35, TB)] (TB) 36 := ⟨fun st => by kernel_rfl, fun st => by kernel_rfl, fun st => by kernel_rfl, by kernel_rfl, rfl⟩
theorem r3_17 : OpV 164 r3O 17 [] [] [(36, TB), (5, .opq 50)] (.opq 50) 37 := ⟨fun st => by kernel_rfl, fun st => by kernel_rfl, fun st => by kernel_rfl, by kernel_rfl, rfl⟩
theorem r3_19 : OpV 164 r3O 19 [] errM [(36, TB), (2, ptr0 61)] (errA) 39 := ⟨fun st => by kernel_rfl, fun st => by kernel_rfl, fun st => by kernel_rfl, by kernel_rfl, rfl⟩
theorem r3_21 : OpV 164 r3O 21 [(.seq true (.var 1) (.var 1), false)] [] [(36, TB), (38, ss 1), (40, ss 1)] (FB) 41 := ⟨fun st => by kernel_rfl, fun st => by kernel_rfl, fun st => by kernel_rfl, by kernel_rfl, rfl⟩
theorem r3_22t : OpV 164 r3O 22 [] [] [(33, FB), (36, TB), (41, FB)] (FB) 42 := ⟨fun st => by kernel_rfl, fun st => by kernel_rfl, fun st => by kernel_rfl, by kernel_rfl, rfl⟩
theorem r3_22n : OpV 164 r3O 22 [] [] [(33, FB), (36, FB)] (FB) 42 := ⟨fun st => by kernel_rfl, fun st => by kernel_rfl, fun st => by kernel_rfl, by kernel_rfl, rfl⟩
theorem r3_23 : OpV 164 r3O 23 [] [] [(33, FB), (42, FB)] (FB) 43 := ⟨fun st => by kernel_rfl, fun st => by kernel_rfl, fun st => by kernel_rfl, by kernel_rfl, rfl⟩
theorem r3_15t (t : Nat) : OpV 164 r3O 15 [] [] [(33, FB), (34, .iface t (.opq 50))] TB 35 := ⟨fun st => by kernel_rfl, fun st => by kernel_rfl, fun st => by kernel_rfl, by kernel_rfl, rfl⟩
theorem r3_17s : OpS 164 r3O 17 [(36, FB)] 37 := ⟨fun st => by kernel_rfl, fun st => by kernel_rfl, by kernel_rfl⟩
theorem r3_18s : OpS 164 r3O 18 [(36, FB)] 38 := ⟨fun st => by kernel_rfl, fun st => by kernel_rfl, by kernel_rfl⟩
theorem r3_19s : OpS 164 r3O 19 [(36, FB)] 39 := ⟨fun st => by kernel_rfl, fun st => by kernel_rfl, by kernel_rfl⟩
theorem r3_20s : OpS 164 r3O 20 [(36, FB)] 40 := ⟨fun st => by kernel_rfl, fun st => by kernel_rfl, by kernel_rfl⟩
theorem r3_21s : OpS 164 r3O 21 [(36, FB)] 41 := ⟨fun st => by kernel_rfl, fun st => by kernel_rfl, by kernel_rfl⟩
theorem r3_1 : OpC 164 r3O 1 [(20, .opq 50)] 6 [.opq 50] 21 := ⟨fun st => by kernel_rfl, fun st => by kernel_rfl, fun st => by kernel_rfl, by kernel_rfl, rfl⟩
theorem r3_3 : OpC 164 r3O 3 [(22, .opq 50)] 7 [.opq 50] 23 := ⟨fun st => by kernel_rfl, fun st => by kernel_rfl, fun st => by kernel_rfl, by kernel_rfl, rfl⟩
theorem r3_7 : OpC 164 r3O 7 [(25, FB), (26, .opq 50)] 9 [.opq 50] 27 := ⟨fun st => by kernel_rfl, fun st => by kernel_rfl, fun st => by kernel_rfl, by kernel_rfl, rfl⟩
theorem r3_9 : OpC 164 r3O 9 [(25, FB), (28, .opq 50)] 10 [.opq 50] 29 := ⟨fun st => by kernel_rfl, fun st => by kernel_rfl, fun st => by kernel_rfl, by kernel_rfl, rfl⟩
theorem r3_10 : OpC 164 r3O 10 [(25, FB), (27, .opq 50), (29, .opq 51)] 8 [.opq 50, .opq 51] 30 := ⟨fun st => by kernel_rfl, fun st => by kernel_rfl, fun st => by kernel_rfl, by kernel_rfl, rfl⟩
theorem r3_20 : OpC 164 r3O 20 [(36, TB), (39, .opq 50)] 11 [.opq 50] 40 := ⟨fun st => by kernel_rfl, fun st => by kernel_rfl, fun st => by kernel_rfl, by kernel_rfl, rfl⟩
theorem r3_18 {t : Nat} (h : isErr t) : OpC 164 r3O 18 [(36, TB), (37, .iface t (.opq 50))] (errF t) [.opq 50] 38 := by
  rcases h with rfl | rfl | rfl | rfl | rfl | rfl | rfl <;> exact ⟨fun st => by kernel_rfl, fun st => by kernel_rfl, fun st => by kernel_rfl, by kernel_rfl, rfl⟩
end Go.Proofs.YtojifefdokekpaaDoor
set_option maxRecDepth 100000
set_option linter.unusedVariables false
set_option linter.unusedSimpArgs false
namespace Go.Proofs.YtojifefdokekpaaDoor
open Go.Proofs.YtojifefdokekpaaDoor.SX Go.Conc
theorem pin {ops : Array Oper} {i p : Nat} (h : (preN ops i).contains p = true) : p ∈ preN ops i := by simpa using h
section
variable {w : World} {cs : List Frame} {fr : Frame} {fn nt i d : Nat} {ops : Array Oper} {l : List Nat} {k : List Item} {lv : List (Nat × Value)} {lA : List (Nat × AV)} {bs : List (BE × Bool)} {mem : List (AA × AV)} {ρ : Env}
theorem OpV.go {a : AV} (o : OpV nt ops i bs mem lA a d) (hf : FA fn nt (.inRegion ops (i :: l) :: k) [] .normal lv fr) (hdn : d < nt) (hl : ∀ p ∈ told ρ lA, p ∈ lv) (hb : ∀ p ∈ bs, p.1.ev ρ = p.2) (hm : ∀ p ∈ mem, w.cell? (p.1.ev ρ) = some (p.2.ev ρ)) :
    Goes (G fr cs) w fun g' w' => ∃ fr' v, g' = G fr' cs ∧ Fresh w w' ∧ v = a.ev ρ ∧ FA fn nt (.inRegion ops l :: k) [] .normal (lvPut d v lv) fr' :=
  (op_value (ρ := ρ) hf (.inl rfl) hl o.want o.op o.low hb hm o.dst hdn o.alow).mono fun g' w' hd => by
    obtain ⟨fr', h1, h2, h3⟩ := hd
    exact ⟨fr', _, h1, h2, rfl, h3⟩
theorem OpS.go (o : OpS nt ops i lA d) (hf : FA fn nt (.inRegion ops (i :: l) :: k) [] .normal lv fr) (hdn : d < nt) (hl : ∀ p ∈ told ρ lA, p ∈ lv) :
    Goes (G fr cs) w fun g' w' => ∃ fr' v, g' = G fr' cs ∧ Fresh w w' ∧ v = undef ∧ FA fn nt (.inRegion ops l :: k) [] .normal (lvPut d v lv) fr' :=
  (op_skip (ρ := ρ) (bs := []) (mem := []) hf hl o.want o.low (fun p hp => by cases hp) (fun p hp => by cases hp) o.dst hdn).mono fun g' w' hd => by
    obtain ⟨fr', h1, h2, h3⟩ := hd
    exact ⟨fr', _, h1, h2, rfl, h3⟩
theorem OpC.go {f : FuncId} {args : List AV} (o : OpC nt ops i lA f args d) {Q : Value → World → Prop} (hf : FA fn nt (.inRegion ops (i :: l) :: k) [] .normal lv fr) (hdn : d < nt) (hl : ∀ p ∈ told ρ lA, p ∈ lv) (h : ∀ w', Fresh w w' → Ans f (AV.evs ρ args).toArray w' fun v w2 => Fresh w' w2 ∧ Q v w2) :
    Goes (G fr cs) w fun g' w' => ∃ fr' v, g' = G fr' cs ∧ Fresh w w' ∧ Q v w' ∧ FA fn nt (.inRegion ops l :: k) [] .normal (lvPut d v lv) fr' :=
  (op_call (ρ := ρ) (bs := []) (mem := []) (Q := fun v w2 => Fresh w w2 ∧ Q v w2) hf hl o.want o.op o.low (fun p hp => by cases hp) (fun p hp => by cases hp) o.dst hdn o.alow (fun w' f1 => (h w' f1).mono fun v w2 hd => ⟨f1.trans hd.1, hd.2⟩)).mono fun g' w' hd => by
    obtain ⟨fr', v, h1, h2, h3⟩ := hd
    exact ⟨fr', v, h1, h2.1, h2.2, h3⟩
end
def r3V (e : Value) (k : Nat) (n : Int) (s : Value) (l : List Int) (i : Nat) (v : Value) (w : World) : Prop := match i with
  | 0 => v = e
  | 1 => v = iV (clsOf k n)
  | 2 => v = errV k n s
  | 3 => v = iV (clsOf k n)
  | 6 => v = e
  | 7 => NumsNe w v (numsOf l k n)
  | 8 => v = errV k n s
  | 9 => NumsNe w v (numsOf l k n)
  | 10 => v = .bool true
  | 14 => v = e
  | 15 => v = .bool (!(k == 0))
  | 16 => v = .bool (!(k == 0))
  | 17 => k ≠ 0 → v = e
  | 18 => k ≠ 0 → v = tV (txt l k n)
  | 19 => k ≠ 0 → v = errV k n s
  | 20 => k ≠ 0 → v = tV (txt l k n)
  | 21 => k ≠ 0 → v = .bool false
  | _ => v = .bool false
theorem r3V_keep {e : Value} {k : Nat} {n : Int} {s : Value} {l : List Int} (i : Nat) (v : Value) (w w' : World) (h : r3V e k n s l i v w) (f : Fresh w w') : r3V e k n s l i v w' := by
  unfold r3V at h ⊢
  split at h
  all_goals first | exact h | exact NumsNe.keep h f
end Go.Proofs.YtojifefdokekpaaDoor
set_option maxRecDepth 100000
set_option linter.unusedVariables false
set_option linter.unusedSimpArgs false
namespace Go.Proofs.YtojifefdokekpaaDoor
open Go.Proofs.YtojifefdokekpaaDoor.SX Go.Conc
section
variable {w0 w : World} {cs : List Frame} {fr : Frame} {e s : Value} {kd X i : Nat} {n num : Int} {nl l : List Int} {ls : List Nat} {k : List Item} {lv : List (Nat × Value)}
structure R3 (w0 : World) (e s : Value) (kd X : Nat) (n num : Int) (l : List Int) : Prop where
  err : ErrAt w0 e l kd n
  c0 : w0.cell? ⟨X, 0, none⟩ = some (iV kd)
  c1 : w0.cell? ⟨X, 1, none⟩ = some (iV n)
  c2 : w0.cell? ⟨X, 2, none⟩ = some s
  nums : NumsAt w0 s l
  lI : ∀ x ∈ l, I64 x
  nI : I64 n
  k0 : kd = 0 → l = []
  s0 : kd = 0 → s = nilV
  kn : kd = 0 ∨ kd = 5 → n = 0
  len : l.length ≤ 1000
  ty : TypeAt w0
  tab : TabAt w0
noncomputable def r3E (e s : Value) (kd X : Nat) (n : Int) (l : List Int) : Env := Go.Proofs.YtojifefdokekpaaDoor.SX.mkS [(5, clsOf kd n)] [(61, X)] [(50, e), (40, iV kd), (41, iV n), (42, s)] [(1, ⟨(txt l kd n).toArray⟩)]
def r3B (e : Value) (X : Nat) (num : Int) : List (Nat × Value) := [(1, iV num), (2, ptrV X), (4, .bool false), (5, e)]
theorem errM_ok (H : R3 w0 e s kd X n num l) (f : Fresh w0 w) : ∀ p ∈ errM, w.cell? (p.1.ev (r3E e s kd X n l)) = some (p.2.ev (r3E e s kd X n l)) := by
  intro p hp
  simp only [errM, List.mem_cons, List.not_mem_nil, or_false] at hp
  rcases hp with rfl | rfl | rfl
  · exact f.cell H.c0
  · exact f.cell H.c1
  · exact f.cell H.c2
theorem r3s_0 (H : R3 w0 e s kd X n num l) (f : Fresh w0 w) (hf : FA 3 164 (.inRegion r3O (0 :: ls) :: k) [] .normal lv fr) (hb : ∀ x ∈ r3B e X num, x ∈ lv) (hp : ∀ p ∈ preN r3O 0, ∃ v, (p + 20, v) ∈ lv ∧ r3V e kd n s l p v w) :
    Goes (G fr cs) w fun g' w' => ∃ fr' v, g' = G fr' cs ∧ Fresh w w' ∧ r3V e kd n s l 0 v w' ∧ FA 3 164 (.inRegion r3O ls :: k) [] .normal (lvPut 20 v lv) fr' := by
  have m5 : (5, e) ∈ lv := hb _ (List.mem_of_getElem? (i := 3) rfl)
  have m2 : (2, ptrV X) ∈ lv := hb _ (List.mem_of_getElem? (i := 1) rfl)
  refine (r3_0.go (ρ := r3E e s kd X n l) hf (by decide) (fun q hq => ?_) (fun q hq => by cases hq) (fun q hq => by cases hq)).mono fun g' w' hd => ?_
  · simp only [told, List.map_cons, List.map_nil, List.mem_cons, List.not_mem_nil, or_false] at hq
    rcases hq with rfl
    · exact m5
  · obtain ⟨fr', u, h1, h2, h3, h4⟩ := hd
    exact ⟨fr', u, h1, h2, h3, h4⟩
theorem r3s_2 (H : R3 w0 e s kd X n num l) (f : Fresh w0 w) (hf : FA 3 164 (.inRegion r3O (2 :: ls) :: k) [] .normal lv fr) (hb : ∀ x ∈ r3B e X num, x ∈ lv) (hp : ∀ p ∈ preN r3O 2, ∃ v, (p + 20, v) ∈ lv ∧ r3V e kd n s l p v w) :
    Goes (G fr cs) w fun g' w' => ∃ fr' v, g' = G fr' cs ∧ Fresh w w' ∧ r3V e kd n s l 2 v w' ∧ FA 3 164 (.inRegion r3O ls :: k) [] .normal (lvPut 22 v lv) fr' := by
  have m5 : (5, e) ∈ lv := hb _ (List.mem_of_getElem? (i := 3) rfl)
  have m2 : (2, ptrV X) ∈ lv := hb _ (List.mem_of_getElem? (i := 1) rfl)
  refine (r3_2.go (ρ := r3E e s kd X n l) hf (by decide) (fun q hq => ?_) (fun q hq => by cases hq) (errM_ok H f)).mono fun g' w' hd => ?_
  · simp only [told, List.map_cons, List.map_nil, List.mem_cons, List.not_mem_nil, or_false] at hq
    rcases hq with rfl
    · exact m2
  · obtain ⟨fr', u, h1, h2, h3, h4⟩ := hd
    exact ⟨fr', u, h1, h2, h3, h4⟩
theorem r3s_4 (H : R3 w0 e s kd X n num l) (f : Fresh w0 w) (hf : FA 3 164 (.inRegion r3O (4 :: ls) :: k) [] .normal lv fr) (hb : ∀ x ∈ r3B e X num, x ∈ lv) (hp : ∀ p ∈ preN r3O 4, ∃ v, (p + 20, v) ∈ lv ∧ r3V e kd n s l p v w) :
    Goes (G fr cs) w fun g' w' => ∃ fr' v, g' = G fr' cs ∧ Fresh w w' ∧ r3V e kd n s l 4 v w' ∧ FA 3 164 (.inRegion r3O ls :: k) [] .normal (lvPut 24 v lv) fr' := by
  have m5 : (5, e) ∈ lv := hb _ (List.mem_of_getElem? (i := 3) rfl)
  have m2 : (2, ptrV X) ∈ lv := hb _ (List.mem_of_getElem? (i := 1) rfl)
  obtain ⟨v1, q1, e1⟩ := hp 1 (pin (by kernel_rfl))
  have e1 : v1 = iV (clsOf kd n) := e1
  subst e1
  obtain ⟨v3, q3, e3⟩ := hp 3 (pin (by kernel_rfl))
  have e3 : v3 = iV (clsOf kd n) := e3
  subst e3
  refine (r3_4.go (ρ := r3E e s kd X n l) hf (by decide) (fun q hq => ?_) (fun q hq => by obtain rfl := List.mem_singleton.1 hq; exact nq_ok) (fun q hq => by cases hq)).mono fun g' w' hd => ?_
  · simp only [told, List.map_cons, List.map_nil, List.mem_cons, List.not_mem_nil, or_false] at hq
    rcases hq with rfl | rfl
    · exact q1
    · exact q3
  · obtain ⟨fr', u, h1, h2, h3, h4⟩ := hd
    exact ⟨fr', u, h1, h2, h3, h4⟩
theorem r3s_5 (H : R3 w0 e s kd X n num l) (f : Fresh w0 w) (hf : FA 3 164 (.inRegion r3O (5 :: ls) :: k) [] .normal lv fr) (hb : ∀ x ∈ r3B e X num, x ∈ lv) (hp : ∀ p ∈ preN r3O 5, ∃ v, (p + 20, v) ∈ lv ∧ r3V e kd n s l p v w) :
    Goes (G fr cs) w fun g' w' => ∃ fr' v, g' = G fr' cs ∧ Fresh w w' ∧ r3V e kd n s l 5 v w' ∧ FA 3 164 (.inRegion r3O ls :: k) [] .normal (lvPut 25 v lv) fr' := by
  have m5 : (5, e) ∈ lv := hb _ (List.mem_of_getElem? (i := 3) rfl)
  have m2 : (2, ptrV X) ∈ lv := hb _ (List.mem_of_getElem? (i := 1) rfl)
  obtain ⟨v4, q4, e4⟩ := hp 4 (pin (by kernel_rfl))
  have e4 : v4 = Value.bool false := e4
  subst e4
  refine (r3_5.go (ρ := r3E e s kd X n l) hf (by decide) (fun q hq => ?_) (fun q hq => by cases hq) (fun q hq => by cases hq)).mono fun g' w' hd => ?_
  · simp only [told, List.map_cons, List.map_nil, List.mem_cons, List.not_mem_nil, or_false] at hq
    rcases hq with rfl
    · exact q4
  · obtain ⟨fr', u, h1, h2, h3, h4⟩ := hd
    exact ⟨fr', u, h1, h2, h3, h4⟩
theorem r3s_6 (H : R3 w0 e s kd X n num l) (f : Fresh w0 w) (hf : FA 3 164 (.inRegion r3O (6 :: ls) :: k) [] .normal lv fr) (hb : ∀ x ∈ r3B e X num, x ∈ lv) (hp : ∀ p ∈ preN r3O 6, ∃ v, (p + 20, v) ∈ lv ∧ r3V e kd n s l p v w) :
    Goes (G fr cs) w fun g' w' => ∃ fr' v, g' = G fr' cs ∧ Fresh w w' ∧ r3V e kd n s l 6 v w' ∧ FA 3 164 (.inRegion r3O ls :: k) [] .normal (lvPut 26 v lv) fr' := by
  have m5 : (5, e) ∈ lv := hb _ (List.mem_of_getElem? (i := 3) rfl)
  have m2 : (2, ptrV X) ∈ lv := hb _ (List.mem_of_getElem? (i := 1) rfl)
  obtain ⟨v5, q5, e5⟩ := hp 5 (pin (by kernel_rfl))
  have e5 : v5 = Value.bool false := e5
  subst e5
  refine (r3_6.go (ρ := r3E e s kd X n l) hf (by decide) (fun q hq => ?_) (fun q hq => by cases hq) (fun q hq => by cases hq)).mono fun g' w' hd => ?_
  · simp only [told, List.map_cons, List.map_nil, List.mem_cons, List.not_mem_nil, or_false] at hq
    rcases hq with rfl | rfl
    · exact q5
    · exact m5
  · obtain ⟨fr', u, h1, h2, h3, h4⟩ := hd
    exact ⟨fr', u, h1, h2, h3, h4⟩
theorem r3s_8 (H : R3 w0 e s kd X n num l) (f : Fresh w0 w) (hf : FA 3 164 (.inRegion r3O (8 :: ls) :: k) [] .normal lv fr) (hb : ∀ x ∈ r3B e X num, x ∈ lv) (hp : ∀ p ∈ preN r3O 8, ∃ v, (p + 20, v) ∈ lv ∧ r3V e kd n s l p v w) :
    Goes (G fr cs) w fun g' w' => ∃ fr' v, g' = G fr' cs ∧ Fresh w w' ∧ r3V e kd n s l 8 v w' ∧ FA 3 164 (.inRegion r3O ls :: k) [] .normal (lvPut 28 v lv) fr' := by
  have m5 : (5, e) ∈ lv := hb _ (List.mem_of_getElem? (i := 3) rfl)
  have m2 : (2, ptrV X) ∈ lv := hb _ (List.mem_of_getElem? (i := 1) rfl)
  obtain ⟨v5, q5, e5⟩ := hp 5 (pin (by kernel_rfl))
  have e5 : v5 = Value.bool false := e5
  subst e5
  refine (r3_8.go (ρ := r3E e s kd X n l) hf (by decide) (fun q hq => ?_) (fun q hq => by cases hq) (errM_ok H f)).mono fun g' w' hd => ?_
  · simp only [told, List.map_cons, List.map_nil, List.mem_cons, List.not_mem_nil, or_false] at hq
    rcases hq with rfl | rfl
    · exact q5
    · exact m2
  · obtain ⟨fr', u, h1, h2, h3, h4⟩ := hd
    exact ⟨fr', u, h1, h2, h3, h4⟩
theorem r3s_11 (H : R3 w0 e s kd X n num l) (f : Fresh w0 w) (hf : FA 3 164 (.inRegion r3O (11 :: ls) :: k) [] .normal lv fr) (hb : ∀ x ∈ r3B e X num, x ∈ lv) (hp : ∀ p ∈ preN r3O 11, ∃ v, (p + 20, v) ∈ lv ∧ r3V e kd n s l p v w) :
    Goes (G fr cs) w fun g' w' => ∃ fr' v, g' = G fr' cs ∧ Fresh w w' ∧ r3V e kd n s l 11 v w' ∧ FA 3 164 (.inRegion r3O ls :: k) [] .normal (lvPut 31 v lv) fr' := by
  have m5 : (5, e) ∈ lv := hb _ (List.mem_of_getElem? (i := 3) rfl)
  have m2 : (2, ptrV X) ∈ lv := hb _ (List.mem_of_getElem? (i := 1) rfl)
  obtain ⟨v5, q5, e5⟩ := hp 5 (pin (by kernel_rfl))
  have e5 : v5 = Value.bool false := e5
  subst e5
  obtain ⟨v10, q10, e10⟩ := hp 10 (pin (by kernel_rfl))
  have e10 : v10 = Value.bool true := e10
  subst e10
  refine (r3_11.go (ρ := r3E e s kd X n l) hf (by decide) (fun q hq => ?_) (fun q hq => by cases hq) (fun q hq => by cases hq)).mono fun g' w' hd => ?_
  · simp only [told, List.map_cons, List.map_nil, List.mem_cons, List.not_mem_nil, or_false] at hq
    rcases hq with rfl | rfl
    · exact q5
    · exact q10
  · obtain ⟨fr', u, h1, h2, h3, h4⟩ := hd
    exact ⟨fr', u, h1, h2, h3, h4⟩
theorem r3s_12 (H : R3 w0 e s kd X n num l) (f : Fresh w0 w) (hf : FA 3 164 (.inRegion r3O (12 :: ls) :: k) [] .normal lv fr) (hb : ∀ x ∈ r3B e X num, x ∈ lv) (hp : ∀ p ∈ preN r3O 12, ∃ v, (p + 20, v) ∈ lv ∧ r3V e kd n s l p v w) :
    Goes (G fr cs) w fun g' w' => ∃ fr' v, g' = G fr' cs ∧ Fresh w w' ∧ r3V e kd n s l 12 v w' ∧ FA 3 164 (.inRegion r3O ls :: k) [] .normal (lvPut 32 v lv) fr' := by
  have m5 : (5, e) ∈ lv := hb _ (List.mem_of_getElem? (i := 3) rfl)
  have m2 : (2, ptrV X) ∈ lv := hb _ (List.mem_of_getElem? (i := 1) rfl)
  obtain ⟨v5, q5, e5⟩ := hp 5 (pin (by kernel_rfl))
  have e5 : v5 = Value.bool false := e5
  subst e5
  obtain ⟨v11, q11, e11⟩ := hp 11 (pin (by kernel_rfl))
  have e11 : v11 = Value.bool false := e11
  subst e11
  refine (r3_12.go (ρ := r3E e s kd X n l) hf (by decide) (fun q hq => ?_) (fun q hq => by cases hq) (fun q hq => by cases hq)).mono fun g' w' hd => ?_
  · simp only [told, List.map_cons, List.map_nil, List.mem_cons, List.not_mem_nil, or_false] at hq
    rcases hq with rfl | rfl
    · exact q5
    · exact q11
  · obtain ⟨fr', u, h1, h2, h3, h4⟩ := hd
    exact ⟨fr', u, h1, h2, h3, h4⟩
theorem r3s_13 (H : R3 w0 e s kd X n num l) (f : Fresh w0 w) (hf : FA 3 164 (.inRegion r3O (13 :: ls) :: k) [] .normal lv fr) (hb : ∀ x ∈ r3B e X num, x ∈ lv) (hp : ∀ p ∈ preN r3O 13, ∃ v, (p + 20, v) ∈ lv ∧ r3V e kd n s l p v w) :
    Goes (G fr cs) w fun g' w' => ∃ fr' v, g' = G fr' cs ∧ Fresh w w' ∧ r3V e kd n s l 13 v w' ∧ FA 3 164 (.inRegion r3O ls :: k) [] .normal (lvPut 33 v lv) fr' := by
  have m5 : (5, e) ∈ lv := hb _ (List.mem_of_getElem? (i := 3) rfl)
  have m2 : (2, ptrV X) ∈ lv := hb _ (List.mem_of_getElem? (i := 1) rfl)
  obtain ⟨v12, q12, e12⟩ := hp 12 (pin (by kernel_rfl))
  have e12 : v12 = Value.bool false := e12
  subst e12
  refine (r3_13.go (ρ := r3E e s kd X n l) hf (by decide) (fun q hq => ?_) (fun q hq => by cases hq) (fun q hq => by cases hq)).mono fun g' w' hd => ?_
  · simp only [told, List.map_cons, List.map_nil, List.mem_cons, List.not_mem_nil, or_false] at hq
    rcases hq with rfl
    · exact q12
  · obtain ⟨fr', u, h1, h2, h3, h4⟩ := hd
    exact ⟨fr', u, h1, h2, h3, h4⟩
theorem r3s_14 (H : R3 w0 e s kd X n num l) (f : Fresh w0 w) (hf : FA 3 164 (.inRegion r3O (14 :: ls) :: k) [] .normal lv fr) (hb : ∀ x ∈ r3B e X num, x ∈ lv) (hp : ∀ p ∈ preN r3O 14, ∃ v, (p + 20, v) ∈ lv ∧ r3V e kd n s l p v w) :
    Goes (G fr cs) w fun g' w' => ∃ fr' v, g' = G fr' cs ∧ Fresh w w' ∧ r3V e kd n s l 14 v w' ∧ FA 3 164 (.inRegion r3O ls :: k) [] .normal (lvPut 34 v lv) fr' := by
  have m5 : (5, e) ∈ lv := hb _ (List.mem_of_getElem? (i := 3) rfl)
  have m2 : (2, ptrV X) ∈ lv := hb _ (List.mem_of_getElem? (i := 1) rfl)
  obtain ⟨v13, q13, e13⟩ := hp 13 (pin (by kernel_rfl))
  have e13 : v13 = Value.bool false := e13
  subst e13
  refine (r3_14.go (ρ := r3E e s kd X n l) hf (by decide) (fun q hq => ?_) (fun q hq => by cases hq) (fun q hq => by cases hq)).mono fun g' w' hd => ?_
  · simp only [told, List.map_cons, List.map_nil, List.mem_cons, List.not_mem_nil, or_false] at hq
    rcases hq with rfl | rfl
    · exact q13
    · exact m5
  · obtain ⟨fr', u, h1, h2, h3, h4⟩ := hd
    exact ⟨fr', u, h1, h2, h3, h4⟩
theorem r3s_23 (H : R3 w0 e s kd X n num l) (f : Fresh w0 w) (hf : FA 3 164 (.inRegion r3O (23 :: ls) :: k) [] .normal lv fr) (hb : ∀ x ∈ r3B e X num, x ∈ lv) (hp : ∀ p ∈ preN r3O 23, ∃ v, (p + 20, v) ∈ lv ∧ r3V e kd n s l p v w) :
    Goes (G fr cs) w fun g' w' => ∃ fr' v, g' = G fr' cs ∧ Fresh w w' ∧ r3V e kd n s l 23 v w' ∧ FA 3 164 (.inRegion r3O ls :: k) [] .normal (lvPut 43 v lv) fr' := by
  have m5 : (5, e) ∈ lv := hb _ (List.mem_of_getElem? (i := 3) rfl)
  have m2 : (2, ptrV X) ∈ lv := hb _ (List.mem_of_getElem? (i := 1) rfl)
  obtain ⟨v13, q13, e13⟩ := hp 13 (pin (by kernel_rfl))
  have e13 : v13 = Value.bool false := e13
  subst e13
  obtain ⟨v22, q22, e22⟩ := hp 22 (pin (by kernel_rfl))
  have e22 : v22 = Value.bool false := e22
  subst e22
  refine (r3_23.go (ρ := r3E e s kd X n l) hf (by decide) (fun q hq => ?_) (fun q hq => by cases hq) (fun q hq => by cases hq)).mono fun g' w' hd => ?_
  · simp only [told, List.map_cons, List.map_nil, List.mem_cons, List.not_mem_nil, or_false] at hq
    rcases hq with rfl | rfl
    · exact q13
    · exact q22
  · obtain ⟨fr', u, h1, h2, h3, h4⟩ := hd
    exact ⟨fr', u, h1, h2, h3, h4⟩
end
end Go.Proofs.YtojifefdokekpaaDoor
set_option maxRecDepth 100000
set_option linter.unusedVariables false
set_option linter.unusedSimpArgs false
namespace Go.Proofs.YtojifefdokekpaaDoor
open Go.Proofs.YtojifefdokekpaaDoor.SX Go.Conc
section
variable {w0 w : World} {cs : List Frame} {fr : Frame} {e s : Value} {kd X i : Nat} {n num : Int} {nl l : List Int} {ls : List Nat} {k : List Item} {lv : List (Nat × Value)}
theorem numsOf_len (h : l.length ≤ 2000) : (numsOf l kd n).length ≤ 1000000 := by
  unfold numsOf
  rw [List.length_append]
  split <;> simp <;> omega
theorem r3s_1 (H : R3 w0 e s kd X n num l) (f : Fresh w0 w) (hf : FA 3 164 (.inRegion r3O (1 :: ls) :: k) [] .normal lv fr) (hb : ∀ x ∈ r3B e X num, x ∈ lv) (hp : ∀ p ∈ preN r3O 1, ∃ v, (p + 20, v) ∈ lv ∧ r3V e kd n s l p v w) :
    Goes (G fr cs) w fun g' w' => ∃ fr' v, g' = G fr' cs ∧ Fresh w w' ∧ r3V e kd n s l 1 v w' ∧ FA 3 164 (.inRegion r3O ls :: k) [] .normal (lvPut 21 v lv) fr' := by
  have m5 : (5, e) ∈ lv := hb _ (List.mem_of_getElem? (i := 3) rfl)
  have m2 : (2, ptrV X) ∈ lv := hb _ (List.mem_of_getElem? (i := 1) rfl)
  obtain ⟨v0, q0, e0⟩ := hp 0 (pin (by kernel_rfl))
  have e0 : v0 = e := e0
  rw [e0] at q0
  refine (r3_1.go (ρ := mkE [] [] [(50, e)]) (Q := fun v w' => r3V e kd n s l 1 v w') hf (by decide) (fun q hq => ?_) (fun w' f1 => ?_))
  · simp only [told, List.map_cons, List.map_nil, List.mem_cons, List.not_mem_nil, or_false] at hq
    rcases hq with rfl
    · exact q0
  · exact (class_all (H.err.keep (f.trans f1)) ((f.trans f1).cell H.ty))
theorem r3s_3 (H : R3 w0 e s kd X n num l) (f : Fresh w0 w) (hf : FA 3 164 (.inRegion r3O (3 :: ls) :: k) [] .normal lv fr) (hb : ∀ x ∈ r3B e X num, x ∈ lv) (hp : ∀ p ∈ preN r3O 3, ∃ v, (p + 20, v) ∈ lv ∧ r3V e kd n s l p v w) :
    Goes (G fr cs) w fun g' w' => ∃ fr' v, g' = G fr' cs ∧ Fresh w w' ∧ r3V e kd n s l 3 v w' ∧ FA 3 164 (.inRegion r3O ls :: k) [] .normal (lvPut 23 v lv) fr' := by
  have m5 : (5, e) ∈ lv := hb _ (List.mem_of_getElem? (i := 3) rfl)
  have m2 : (2, ptrV X) ∈ lv := hb _ (List.mem_of_getElem? (i := 1) rfl)
  obtain ⟨v2, q2, e2⟩ := hp 2 (pin (by kernel_rfl))
  have e2 : v2 = errV kd n s := e2
  subst e2
  refine (r3_3.go (ρ := mkE [] [] [(50, errV kd n s)]) (Q := fun v w' => r3V e kd n s l 3 v w') hf (by decide) (fun q hq => ?_) (fun w' f1 => ?_))
  · simp only [told, List.map_cons, List.map_nil, List.mem_cons, List.not_mem_nil, or_false] at hq
    rcases hq with rfl
    · exact q2
  · exact (refClass_all H.err.lt)
theorem r3s_7 (H : R3 w0 e s kd X n num l) (f : Fresh w0 w) (hf : FA 3 164 (.inRegion r3O (7 :: ls) :: k) [] .normal lv fr) (hb : ∀ x ∈ r3B e X num, x ∈ lv) (hp : ∀ p ∈ preN r3O 7, ∃ v, (p + 20, v) ∈ lv ∧ r3V e kd n s l p v w) :
    Goes (G fr cs) w fun g' w' => ∃ fr' v, g' = G fr' cs ∧ Fresh w w' ∧ r3V e kd n s l 7 v w' ∧ FA 3 164 (.inRegion r3O ls :: k) [] .normal (lvPut 27 v lv) fr' := by
  have m5 : (5, e) ∈ lv := hb _ (List.mem_of_getElem? (i := 3) rfl)
  have m2 : (2, ptrV X) ∈ lv := hb _ (List.mem_of_getElem? (i := 1) rfl)
  obtain ⟨v5, q5, e5⟩ := hp 5 (pin (by kernel_rfl))
  have e5 : v5 = Value.bool false := e5
  subst e5
  obtain ⟨v6, q6, e6⟩ := hp 6 (pin (by kernel_rfl))
  have e6 : v6 = e := e6
  rw [e6] at q6
  refine (r3_7.go (ρ := mkE [] [] [(50, e)]) (Q := fun v w' => r3V e kd n s l 7 v w') hf (by decide) (fun q hq => ?_) (fun w' f1 => ?_))
  · simp only [told, List.map_cons, List.map_nil, List.mem_cons, List.not_mem_nil, or_false] at hq
    rcases hq with rfl | rfl
    · exact q5
    · exact q6
  · exact ((numbers_all (H.err.keep (f.trans f1)) ((f.trans f1).cell H.ty) (by have := H.len; omega)).mono fun v w2 hd => ⟨hd.1, NumOut.ne hd.2⟩)
theorem r3s_9 (H : R3 w0 e s kd X n num l) (f : Fresh w0 w) (hf : FA 3 164 (.inRegion r3O (9 :: ls) :: k) [] .normal lv fr) (hb : ∀ x ∈ r3B e X num, x ∈ lv) (hp : ∀ p ∈ preN r3O 9, ∃ v, (p + 20, v) ∈ lv ∧ r3V e kd n s l p v w) :
    Goes (G fr cs) w fun g' w' => ∃ fr' v, g' = G fr' cs ∧ Fresh w w' ∧ r3V e kd n s l 9 v w' ∧ FA 3 164 (.inRegion r3O ls :: k) [] .normal (lvPut 29 v lv) fr' := by
  have m5 : (5, e) ∈ lv := hb _ (List.mem_of_getElem? (i := 3) rfl)
  have m2 : (2, ptrV X) ∈ lv := hb _ (List.mem_of_getElem? (i := 1) rfl)
  obtain ⟨v5, q5, e5⟩ := hp 5 (pin (by kernel_rfl))
  have e5 : v5 = Value.bool false := e5
  subst e5
  obtain ⟨v8, q8, e8⟩ := hp 8 (pin (by kernel_rfl))
  have e8 : v8 = errV kd n s := e8
  subst e8
  refine (r3_9.go (ρ := mkE [] [] [(50, errV kd n s)]) (Q := fun v w' => r3V e kd n s l 9 v w') hf (by decide) (fun q hq => ?_) (fun w' f1 => ?_))
  · simp only [told, List.map_cons, List.map_nil, List.mem_cons, List.not_mem_nil, or_false] at hq
    rcases hq with rfl | rfl
    · exact q5
    · exact q8
  · exact ((refNumbers_all H.err.lt H.k0 (H.nums.keep (f.trans f1)) (by have := H.len; omega)).mono fun v w2 hd => ⟨hd.1, NumOut.ne hd.2⟩)
theorem r3s_10 (H : R3 w0 e s kd X n num l) (f : Fresh w0 w) (hf : FA 3 164 (.inRegion r3O (10 :: ls) :: k) [] .normal lv fr) (hb : ∀ x ∈ r3B e X num, x ∈ lv) (hp : ∀ p ∈ preN r3O 10, ∃ v, (p + 20, v) ∈ lv ∧ r3V e kd n s l p v w) :
    Goes (G fr cs) w fun g' w' => ∃ fr' v, g' = G fr' cs ∧ Fresh w w' ∧ r3V e kd n s l 10 v w' ∧ FA 3 164 (.inRegion r3O ls :: k) [] .normal (lvPut 30 v lv) fr' := by
  have m5 : (5, e) ∈ lv := hb _ (List.mem_of_getElem? (i := 3) rfl)
  have m2 : (2, ptrV X) ∈ lv := hb _ (List.mem_of_getElem? (i := 1) rfl)
  obtain ⟨v5, q5, e5⟩ := hp 5 (pin (by kernel_rfl))
  have e5 : v5 = Value.bool false := e5
  subst e5
  obtain ⟨v7, q7, e7⟩ := hp 7 (pin (by kernel_rfl))
  obtain ⟨v9, q9, e9⟩ := hp 9 (pin (by kernel_rfl))
  refine (r3_10.go (ρ := mkE [] [] [(50, v7), (51, v9)]) (Q := fun v w' => r3V e kd n s l 10 v w') hf (by decide) (fun q hq => ?_) (fun w' f1 => ?_))
  · simp only [told, List.map_cons, List.map_nil, List.mem_cons, List.not_mem_nil, or_false] at hq
    rcases hq with rfl | rfl | rfl
    · exact q5
    · exact q7
    · exact q9
  · exact (same_all (NumsNe.keep (show NumsNe w v7 (numsOf l kd n) from e7) f1) (NumsNe.keep (show NumsNe w v9 (numsOf l kd n) from e9) f1) (numsOf_len (by have := H.len; omega)))
theorem r3s_15 (H : R3 w0 e s kd X n num l) (f : Fresh w0 w) (hf : FA 3 164 (.inRegion r3O (15 :: ls) :: k) [] .normal lv fr) (hb : ∀ x ∈ r3B e X num, x ∈ lv) (hp : ∀ p ∈ preN r3O 15, ∃ v, (p + 20, v) ∈ lv ∧ r3V e kd n s l p v w) :
    Goes (G fr cs) w fun g' w' => ∃ fr' v, g' = G fr' cs ∧ Fresh w w' ∧ r3V e kd n s l 15 v w' ∧ FA 3 164 (.inRegion r3O ls :: k) [] .normal (lvPut 35 v lv) fr' := by
  have m5 : (5, e) ∈ lv := hb _ (List.mem_of_getElem? (i := 3) rfl)
  have m2 : (2, ptrV X) ∈ lv := hb _ (List.mem_of_getElem? (i := 1) rfl)
  obtain ⟨v13, q13, e13⟩ := hp 13 (pin (by kernel_rfl))
  have e13 : v13 = Value.bool false := e13
  subst e13
  obtain ⟨v14, q14, e14⟩ := hp 14 (pin (by kernel_rfl))
  have e14 : v14 = e := e14
  rw [e14] at q14
  by_cases h0 : kd = 0
  · subst h0
    obtain ⟨rfl, _⟩ := H.err.nil_is
    refine (r3_15n.go (ρ := r3E .nilIface s 0 X n l) hf (by decide) (fun q hq => ?_) (fun q hq => by cases hq) (fun q hq => by cases hq)).mono fun g' w' hd => ?_
    · simp only [told, List.map_cons, List.map_nil, List.mem_cons, List.not_mem_nil, or_false] at hq
      rcases hq with rfl | rfl
      · exact q13
      · exact q14
    · obtain ⟨fr', u, h1, h2, h3, h4⟩ := hd
      exact ⟨fr', u, h1, h2, h3, h4⟩
  · obtain ⟨t, p, rfl⟩ := H.err.is h0
    refine ((r3_15t t).go (ρ := mkE [] [] [(50, p)]) hf (by decide) (fun q hq => ?_) (fun q hq => by cases hq) (fun q hq => by cases hq)).mono fun g' w' hd => ?_
    · simp only [told, List.map_cons, List.map_nil, List.mem_cons, List.not_mem_nil, or_false] at hq
      rcases hq with rfl | rfl
      · exact q13
      · exact q14
    · obtain ⟨fr', u, h1, h2, h3, h4⟩ := hd
      exact ⟨fr', u, h1, h2, by rw [h3]; show Value.bool true = .bool (!(kd == 0)); simp [h0], h4⟩
theorem r3s_16 (H : R3 w0 e s kd X n num l) (f : Fresh w0 w) (hf : FA 3 164 (.inRegion r3O (16 :: ls) :: k) [] .normal lv fr) (hb : ∀ x ∈ r3B e X num, x ∈ lv) (hp : ∀ p ∈ preN r3O 16, ∃ v, (p + 20, v) ∈ lv ∧ r3V e kd n s l p v w) :
    Goes (G fr cs) w fun g' w' => ∃ fr' v, g' = G fr' cs ∧ Fresh w w' ∧ r3V e kd n s l 16 v w' ∧ FA 3 164 (.inRegion r3O ls :: k) [] .normal (lvPut 36 v lv) fr' := by
  have m5 : (5, e) ∈ lv := hb _ (List.mem_of_getElem? (i := 3) rfl)
  have m2 : (2, ptrV X) ∈ lv := hb _ (List.mem_of_getElem? (i := 1) rfl)
  obtain ⟨v13, q13, e13⟩ := hp 13 (pin (by kernel_rfl))
  have e13 : v13 = Value.bool false := e13
  subst e13
  obtain ⟨v15, q15, e15⟩ := hp 15 (pin (by kernel_rfl))
  have e15 : v15 = Value.bool (!(kd == 0)) := e15
  subst e15
  by_cases h0 : kd = 0
  · subst h0
    refine (r3_16n.go (ρ := r3E e s 0 X n l) hf (by decide) (fun q hq => ?_) (fun q hq => by cases hq) (fun q hq => by cases hq)).mono fun g' w' hd => ?_
    · simp only [told, List.map_cons, List.map_nil, List.mem_cons, List.not_mem_nil, or_false] at hq
      rcases hq with rfl | rfl
      · exact q13
      · exact q15
    · obtain ⟨fr', u, h1, h2, h3, h4⟩ := hd
      exact ⟨fr', u, h1, h2, h3, h4⟩
  · have hk : (!(kd == 0)) = true := by simp [h0]
    rw [hk] at q15
    refine (r3_16t.go (ρ := r3E e s kd X n l) hf (by decide) (fun q hq => ?_) (fun q hq => by cases hq) (fun q hq => by cases hq)).mono fun g' w' hd => ?_
    · simp only [told, List.map_cons, List.map_nil, List.mem_cons, List.not_mem_nil, or_false] at hq
      rcases hq with rfl | rfl
      · exact q13
      · exact q15
    · obtain ⟨fr', u, h1, h2, h3, h4⟩ := hd
      exact ⟨fr', u, h1, h2, by rw [h3]; show Value.bool true = .bool (!(kd == 0)); rw [hk], h4⟩
theorem r3s_17 (H : R3 w0 e s kd X n num l) (f : Fresh w0 w) (hf : FA 3 164 (.inRegion r3O (17 :: ls) :: k) [] .normal lv fr) (hb : ∀ x ∈ r3B e X num, x ∈ lv) (hp : ∀ p ∈ preN r3O 17, ∃ v, (p + 20, v) ∈ lv ∧ r3V e kd n s l p v w) :
    Goes (G fr cs) w fun g' w' => ∃ fr' v, g' = G fr' cs ∧ Fresh w w' ∧ r3V e kd n s l 17 v w' ∧ FA 3 164 (.inRegion r3O ls :: k) [] .normal (lvPut 37 v lv) fr' := by
  have m5 : (5, e) ∈ lv := hb _ (List.mem_of_getElem? (i := 3) rfl)
  have m2 : (2, ptrV X) ∈ lv := hb _ (List.mem_of_getElem? (i := 1) rfl)
  obtain ⟨v16, q16, e16⟩ := hp 16 (pin (by kernel_rfl))
  have e16 : v16 = Value.bool (!(kd == 0)) := e16
  subst e16
  by_cases h0 : kd = 0
  · subst h0
    refine (r3_17s.go (ρ := r3E e s 0 X n l) hf (by decide) (fun q hq => ?_) ).mono fun g' w' hd => ?_
    · simp only [told, List.map_cons, List.map_nil, List.mem_cons, List.not_mem_nil, or_false] at hq
      rcases hq with rfl
      · exact q16
    · obtain ⟨fr', u, h1, h2, h3, h4⟩ := hd
      exact ⟨fr', u, h1, h2, fun h => (h rfl).elim, h4⟩
  · have hk : (!(kd == 0)) = true := by simp [h0]
    rw [hk] at q16
    refine (r3_17.go (ρ := r3E e s kd X n l) hf (by decide) (fun q hq => ?_) (fun q hq => by cases hq) (fun q hq => by cases hq)).mono fun g' w' hd => ?_
    · simp only [told, List.map_cons, List.map_nil, List.mem_cons, List.not_mem_nil, or_false] at hq
      rcases hq with rfl | rfl
      · exact q16
      · exact m5
    · obtain ⟨fr', u, h1, h2, h3, h4⟩ := hd
      exact ⟨fr', u, h1, h2, fun _ => h3, h4⟩
theorem r3s_19 (H : R3 w0 e s kd X n num l) (f : Fresh w0 w) (hf : FA 3 164 (.inRegion r3O (19 :: ls) :: k) [] .normal lv fr) (hb : ∀ x ∈ r3B e X num, x ∈ lv) (hp : ∀ p ∈ preN r3O 19, ∃ v, (p + 20, v) ∈ lv ∧ r3V e kd n s l p v w) :
    Goes (G fr cs) w fun g' w' => ∃ fr' v, g' = G fr' cs ∧ Fresh w w' ∧ r3V e kd n s l 19 v w' ∧ FA 3 164 (.inRegion r3O ls :: k) [] .normal (lvPut 39 v lv) fr' := by
  have m5 : (5, e) ∈ lv := hb _ (List.mem_of_getElem? (i := 3) rfl)
  have m2 : (2, ptrV X) ∈ lv := hb _ (List.mem_of_getElem? (i := 1) rfl)
  obtain ⟨v16, q16, e16⟩ := hp 16 (pin (by kernel_rfl))
  have e16 : v16 = Value.bool (!(kd == 0)) := e16
  subst e16
  by_cases h0 : kd = 0
  · subst h0
    refine (r3_19s.go (ρ := r3E e s 0 X n l) hf (by decide) (fun q hq => ?_) ).mono fun g' w' hd => ?_
    · simp only [told, List.map_cons, List.map_nil, List.mem_cons, List.not_mem_nil, or_false] at hq
      rcases hq with rfl
      · exact q16
    · obtain ⟨fr', u, h1, h2, h3, h4⟩ := hd
      exact ⟨fr', u, h1, h2, fun h => (h rfl).elim, h4⟩
  · have hk : (!(kd == 0)) = true := by simp [h0]
    rw [hk] at q16
    refine (r3_19.go (ρ := r3E e s kd X n l) hf (by decide) (fun q hq => ?_) (fun q hq => by cases hq) (errM_ok H f)).mono fun g' w' hd => ?_
    · simp only [told, List.map_cons, List.map_nil, List.mem_cons, List.not_mem_nil, or_false] at hq
      rcases hq with rfl | rfl
      · exact q16
      · exact m2
    · obtain ⟨fr', u, h1, h2, h3, h4⟩ := hd
      exact ⟨fr', u, h1, h2, fun _ => h3, h4⟩
theorem r3s_18 (H : R3 w0 e s kd X n num l) (f : Fresh w0 w) (hf : FA 3 164 (.inRegion r3O (18 :: ls) :: k) [] .normal lv fr) (hb : ∀ x ∈ r3B e X num, x ∈ lv) (hp : ∀ p ∈ preN r3O 18, ∃ v, (p + 20, v) ∈ lv ∧ r3V e kd n s l p v w) :
    Goes (G fr cs) w fun g' w' => ∃ fr' v, g' = G fr' cs ∧ Fresh w w' ∧ r3V e kd n s l 18 v w' ∧ FA 3 164 (.inRegion r3O ls :: k) [] .normal (lvPut 38 v lv) fr' := by
  have m5 : (5, e) ∈ lv := hb _ (List.mem_of_getElem? (i := 3) rfl)
  have m2 : (2, ptrV X) ∈ lv := hb _ (List.mem_of_getElem? (i := 1) rfl)
  obtain ⟨v16, q16, e16⟩ := hp 16 (pin (by kernel_rfl))
  have e16 : v16 = Value.bool (!(kd == 0)) := e16
  subst e16
  obtain ⟨v17, q17, e17⟩ := hp 17 (pin (by kernel_rfl))
  by_cases h0 : kd = 0
  · subst h0
    refine (r3_18s.go (ρ := r3E e s 0 X n l) hf (by decide) (fun q hq => ?_) ).mono fun g' w' hd => ?_
    · simp only [told, List.map_cons, List.map_nil, List.mem_cons, List.not_mem_nil, or_false] at hq
      rcases hq with rfl
      · exact q16
    · obtain ⟨fr', u, h1, h2, h3, h4⟩ := hd
      exact ⟨fr', u, h1, h2, fun h => (h rfl).elim, h4⟩
  · have hk : (!(kd == 0)) = true := by simp [h0]
    rw [hk] at q16
    have e17 : v17 = e := (show kd ≠ 0 → v17 = e from e17) h0
    rw [e17] at q17
    obtain ⟨t, p, he, hT, tell⟩ := err_all H.err h0 H.lI H.nI (by have := H.len; omega)
    rw [he] at q17
    refine ((r3_18 hT).go (ρ := mkE [] [] [(50, p)]) (Q := fun v w' => r3V e kd n s l 18 v w') hf (by decide) (fun q hq => ?_) (fun w' f1 => (tell w' (f.trans f1) (H.tab.keep (f.trans f1))).mono fun v w2 hd => ⟨hd.1, fun _ => hd.2⟩))
    · simp only [told, List.map_cons, List.map_nil, List.mem_cons, List.not_mem_nil, or_false] at hq
      rcases hq with rfl | rfl
      · exact q16
      · exact q17
theorem r3s_20 (H : R3 w0 e s kd X n num l) (f : Fresh w0 w) (hf : FA 3 164 (.inRegion r3O (20 :: ls) :: k) [] .normal lv fr) (hb : ∀ x ∈ r3B e X num, x ∈ lv) (hp : ∀ p ∈ preN r3O 20, ∃ v, (p + 20, v) ∈ lv ∧ r3V e kd n s l p v w) :
    Goes (G fr cs) w fun g' w' => ∃ fr' v, g' = G fr' cs ∧ Fresh w w' ∧ r3V e kd n s l 20 v w' ∧ FA 3 164 (.inRegion r3O ls :: k) [] .normal (lvPut 40 v lv) fr' := by
  have m5 : (5, e) ∈ lv := hb _ (List.mem_of_getElem? (i := 3) rfl)
  have m2 : (2, ptrV X) ∈ lv := hb _ (List.mem_of_getElem? (i := 1) rfl)
  obtain ⟨v16, q16, e16⟩ := hp 16 (pin (by kernel_rfl))
  have e16 : v16 = Value.bool (!(kd == 0)) := e16
  subst e16
  obtain ⟨v19, q19, e19⟩ := hp 19 (pin (by kernel_rfl))
  by_cases h0 : kd = 0
  · subst h0
    refine (r3_20s.go (ρ := r3E e s 0 X n l) hf (by decide) (fun q hq => ?_) ).mono fun g' w' hd => ?_
    · simp only [told, List.map_cons, List.map_nil, List.mem_cons, List.not_mem_nil, or_false] at hq
      rcases hq with rfl
      · exact q16
    · obtain ⟨fr', u, h1, h2, h3, h4⟩ := hd
      exact ⟨fr', u, h1, h2, fun h => (h rfl).elim, h4⟩
  · have hk : (!(kd == 0)) = true := by simp [h0]
    rw [hk] at q16
    have e19 : v19 = errV kd n s := (show kd ≠ 0 → v19 = errV kd n s from e19) h0
    rw [e19] at q19
    refine (r3_20.go (ρ := mkE [] [] [(50, errV kd n s)]) (Q := fun v w' => r3V e kd n s l 20 v w') hf (by decide) (fun q hq => ?_) (fun w' f1 => (text_all ⟨by omega, H.err.lt⟩ (H.nums.keep (f.trans f1)) H.lI H.nI (by have := H.len; omega) (H.tab.keep (f.trans f1))).mono fun v w2 hd => ⟨hd.1, fun _ => hd.2⟩))
    · simp only [told, List.map_cons, List.map_nil, List.mem_cons, List.not_mem_nil, or_false] at hq
      rcases hq with rfl | rfl
      · exact q16
      · exact q19
theorem r3s_21 (H : R3 w0 e s kd X n num l) (f : Fresh w0 w) (hf : FA 3 164 (.inRegion r3O (21 :: ls) :: k) [] .normal lv fr) (hb : ∀ x ∈ r3B e X num, x ∈ lv) (hp : ∀ p ∈ preN r3O 21, ∃ v, (p + 20, v) ∈ lv ∧ r3V e kd n s l p v w) :
    Goes (G fr cs) w fun g' w' => ∃ fr' v, g' = G fr' cs ∧ Fresh w w' ∧ r3V e kd n s l 21 v w' ∧ FA 3 164 (.inRegion r3O ls :: k) [] .normal (lvPut 41 v lv) fr' := by
  have m5 : (5, e) ∈ lv := hb _ (List.mem_of_getElem? (i := 3) rfl)
  have m2 : (2, ptrV X) ∈ lv := hb _ (List.mem_of_getElem? (i := 1) rfl)
  obtain ⟨v16, q16, e16⟩ := hp 16 (pin (by kernel_rfl))
  have e16 : v16 = Value.bool (!(kd == 0)) := e16
  subst e16
  obtain ⟨v18, q18, e18⟩ := hp 18 (pin (by kernel_rfl))
  obtain ⟨v20, q20, e20⟩ := hp 20 (pin (by kernel_rfl))
  by_cases h0 : kd = 0
  · subst h0
    refine (r3_21s.go (ρ := r3E e s 0 X n l) hf (by decide) (fun q hq => ?_) ).mono fun g' w' hd => ?_
    · simp only [told, List.map_cons, List.map_nil, List.mem_cons, List.not_mem_nil, or_false] at hq
      rcases hq with rfl
      · exact q16
    · obtain ⟨fr', u, h1, h2, h3, h4⟩ := hd
      exact ⟨fr', u, h1, h2, fun h => (h rfl).elim, h4⟩
  · have hk : (!(kd == 0)) = true := by simp [h0]
    rw [hk] at q16
    have e18 : v18 = tV (txt l kd n) := (show kd ≠ 0 → v18 = tV (txt l kd n) from e18) h0
    have e20 : v20 = tV (txt l kd n) := (show kd ≠ 0 → v20 = tV (txt l kd n) from e20) h0
    rw [e18] at q18
    rw [e20] at q20
    refine (r3_21.go (ρ := r3E e s kd X n l) hf (by decide) (fun q hq => ?_) (fun q hq => by obtain rfl := List.mem_singleton.1 hq; simp [BE.ev]) (fun q hq => by cases hq)).mono fun g' w' hd => ?_
    · simp only [told, List.map_cons, List.map_nil, List.mem_cons, List.not_mem_nil, or_false] at hq
      rcases hq with rfl | rfl | rfl
      · exact q16
      · exact q18
      · exact q20
    · obtain ⟨fr', u, h1, h2, h3, h4⟩ := hd
      exact ⟨fr', u, h1, h2, fun _ => h3, h4⟩
theorem r3s_22 (H : R3 w0 e s kd X n num l) (f : Fresh w0 w) (hf : FA 3 164 (.inRegion r3O (22 :: ls) :: k) [] .normal lv fr) (hb : ∀ x ∈ r3B e X num, x ∈ lv) (hp : ∀ p ∈ preN r3O 22, ∃ v, (p + 20, v) ∈ lv ∧ r3V e kd n s l p v w) :
    Goes (G fr cs) w fun g' w' => ∃ fr' v, g' = G fr' cs ∧ Fresh w w' ∧ r3V e kd n s l 22 v w' ∧ FA 3 164 (.inRegion r3O ls :: k) [] .normal (lvPut 42 v lv) fr' := by
  have m5 : (5, e) ∈ lv := hb _ (List.mem_of_getElem? (i := 3) rfl)
  have m2 : (2, ptrV X) ∈ lv := hb _ (List.mem_of_getElem? (i := 1) rfl)
  obtain ⟨v13, q13, e13⟩ := hp 13 (pin (by kernel_rfl))
  have e13 : v13 = Value.bool false := e13
  subst e13
  obtain ⟨v16, q16, e16⟩ := hp 16 (pin (by kernel_rfl))
  have e16 : v16 = Value.bool (!(kd == 0)) := e16
  subst e16
  obtain ⟨v21, q21, e21⟩ := hp 21 (pin (by kernel_rfl))
  by_cases h0 : kd = 0
  · subst h0
    refine (r3_22n.go (ρ := r3E e s 0 X n l) hf (by decide) (fun q hq => ?_) (fun q hq => by cases hq) (fun q hq => by cases hq)).mono fun g' w' hd => ?_
    · simp only [told, List.map_cons, List.map_nil, List.mem_cons, List.not_mem_nil, or_false] at hq
      rcases hq with rfl | rfl
      · exact q13
      · exact q16
    · obtain ⟨fr', u, h1, h2, h3, h4⟩ := hd
      exact ⟨fr', u, h1, h2, h3, h4⟩
  · have hk : (!(kd == 0)) = true := by simp [h0]
    rw [hk] at q16
    have e21 : v21 = .bool false := (show kd ≠ 0 → v21 = .bool false from e21) h0
    rw [e21] at q21
    refine (r3_22t.go (ρ := r3E e s kd X n l) hf (by decide) (fun q hq => ?_) (fun q hq => by cases hq) (fun q hq => by cases hq)).mono fun g' w' hd => ?_
    · simp only [told, List.map_cons, List.map_nil, List.mem_cons, List.not_mem_nil, or_false] at hq
      rcases hq with rfl | rfl | rfl
      · exact q13
      · exact q16
      · exact q21
    · obtain ⟨fr', u, h1, h2, h3, h4⟩ := hd
      exact ⟨fr', u, h1, h2, h3, h4⟩
end
end Go.Proofs.YtojifefdokekpaaDoor
set_option maxRecDepth 100000
set_option linter.unusedVariables false
set_option linter.unusedSimpArgs false
namespace Go.Proofs.YtojifefdokekpaaDoor
open Go.Proofs.YtojifefdokekpaaDoor.SX Go.Conc
theorem draw_is {c : Code} (h : isDraw c = true) : ∃ id, c = .region id (opsOf c) true := by
  unfold isDraw at h
  split at h
  · exact ⟨_, rfl⟩
  · cases h
theorem pre_ok {ops : Array Oper} {n : Nat} (hn : ops.size = n) (h : ((List.range n).all fun i => (preN ops i).all fun p => Nat.blt p i) = true) : ∀ i, i < ops.size → ∀ p ∈ preN ops i, p < i := fun i hi p hp => by
  have h1 := List.all_eq_true.1 h i (List.mem_range.2 (hn ▸ hi))
  exact Nat.blt_eq.mp (List.all_eq_true.1 h1 p hp)
section
variable {w0 : World} {cs : List Frame} {fr : Frame} {e s : Value} {kd X : Nat} {n num : Int} {l : List Int} {k : List Item}
theorem r3_step (H : R3 w0 e s kd X n num l) : ∀ i, i < r3O.size → ∀ (ls : List Nat) (w : World) (fr : Frame) (lv : List (Nat × Value)), Fresh w0 w → FA 3 164 (.inRegion r3O (i :: ls) :: k) [] .normal lv fr → (∀ x ∈ r3B e X num, x ∈ lv) → (∀ p ∈ preN r3O i, ∃ v, (p + 20, v) ∈ lv ∧ r3V e kd n s l p v w) →
    Goes (G fr cs) w fun g' w' => ∃ fr' v, g' = G fr' cs ∧ Fresh w w' ∧ r3V e kd n s l i v w' ∧ FA 3 164 (.inRegion r3O ls :: k) [] .normal (lvPut (i + 20) v lv) fr' := by
  intro i hi ls w fr lv f hf hb hp
  rw [r3Size] at hi
  rcases (by omega : i = 0 ∨ i = 1 ∨ i = 2 ∨ i = 3 ∨ i = 4 ∨ i = 5 ∨ i = 6 ∨ i = 7 ∨ i = 8 ∨ i = 9 ∨ i = 10 ∨ i = 11 ∨ i = 12 ∨ i = 13 ∨ i = 14 ∨ i = 15 ∨ i = 16 ∨ i = 17 ∨ i = 18 ∨ i = 19 ∨ i = 20 ∨ i = 21 ∨ i = 22 ∨ i = 23) with rfl | rfl | rfl | rfl | rfl | rfl | rfl | rfl | rfl | rfl | rfl | rfl | rfl | rfl | rfl | rfl | rfl | rfl | rfl | rfl | rfl | rfl | rfl | rfl
  · exact r3s_0 H f hf hb hp
  · exact r3s_1 H f hf hb hp
  · exact r3s_2 H f hf hb hp
  · exact r3s_3 H f hf hb hp
  · exact r3s_4 H f hf hb hp
  · exact r3s_5 H f hf hb hp
  · exact r3s_6 H f hf hb hp
  · exact r3s_7 H f hf hb hp
  · exact r3s_8 H f hf hb hp
  · exact r3s_9 H f hf hb hp
  · exact r3s_10 H f hf hb hp
  · exact r3s_11 H f hf hb hp
  · exact r3s_12 H f hf hb hp
  · exact r3s_13 H f hf hb hp
  · exact r3s_14 H f hf hb hp
  · exact r3s_15 H f hf hb hp
  · exact r3s_16 H f hf hb hp
  · exact r3s_17 H f hf hb hp
  · exact r3s_18 H f hf hb hp
  · exact r3s_19 H f hf hb hp
  · exact r3s_20 H f hf hb hp
  · exact r3s_21 H f hf hb hp
  · exact r3s_22 H f hf hb hp
  · exact r3s_23 H f hf hb hp
theorem r3_all (H : R3 w0 e s kd X n num l) (hf : FA 3 164 (.code (mnQ [1,1,1,0,0]) :: k) [] .normal (r3B e X num) fr) :
    Goes (G fr cs) w0 fun g' w' => ∃ fr', g' = G fr' cs ∧ Fresh w0 w' ∧ FA 3 164 (.inRegion r3O [] :: k) [] .normal ((43, .bool false) :: r3B e X num) fr' := by
  obtain ⟨id, hid⟩ := draw_is r3Draw
  rw [hid] at hf
  refine (draw_in hf).trans fun g1 w1 hd => ?_
  obtain ⟨ls, fr1, rfl, f1, hs, F1⟩ := hd
  refine (draw_all (b := r3B e X num) (nm := fun i => i + 20) (val := r3V e kd n s l) (w0 := w0) (pre_ok r3Size r3Pre) (fun i hi x hx => ?_) (fun i j _ _ hne h => hne (by omega)) r3V_keep (r3_step H) ls [] f1 (fun i hi => by cases hi) hs ⟨_, F1, fun x hx => hx, fun i hi => by cases hi⟩).mono fun g2 w2 hd2 => ?_
  · simp only [r3B, List.mem_cons, List.not_mem_nil, or_false] at hx
    rcases hx with rfl | rfl | rfl | rfl <;> (show _ ≠ i + 20; first | omega | simp)
  · obtain ⟨fr2, lv, rfl, f2, F2, hb2, hv⟩ := hd2
    obtain ⟨v, q, hval⟩ := hv 23 (by rw [r3Size]; decide)
    have hval : v = .bool false := hval
    subst hval
    exact ⟨fr2, rfl, f2, F2.sub fun x hx => by
      rcases List.mem_cons.1 hx with rfl | hx
      · exact q
      · exact hb2 x hx⟩
end
end Go.Proofs.YtojifefdokekpaaDoor
set_option maxRecDepth 100000
set_option linter.unusedVariables false
set_option linter.unusedSimpArgs false
namespace Go.Proofs.YtojifefdokekpaaDoor
open Go.Proofs.YtojifefdokekpaaDoor.SX Go.Conc
noncomputable def mnB0 (e : AV) : List (Nat × AV) := [(1, i64 (v 3)), (2, ptr0 61), (4, FB), (5, e)]
noncomputable def mnT4 : List Item := [.inRegion r3O [], .code (mnQ [1,1,1,0,1]), .code (mnQ [1,1,1,1])]
noncomputable def mnT5 (l : List Nat) : List Item := [.inRegion (opsOf (mnQ [1,1,1,1,0])) l, .code (mnQ [1,1,1,1,1])]
noncomputable def mnT6 : List Item := [.code (mnQ [1,1,1,1,1,1,1,0,0]), .code (mnQ [1,1,1,1,1,1,1,0,1]), .code (mnQ [1,1,1,1,1,1,1,1])]
noncomputable def r8O : Array Oper := opsOf (mnQ [1,1,1,1,1,1,0,1,0])
noncomputable def mnT8 (l : List Nat) : List Item := [.inRegion r8O l, .code (mnQ [1,1,1,1,1,1,1])]
theorem mnD (st : Nat → Value) : seeF (runZ [] [] 7 [] (cfg (mnF mnT4 (mnB0 (.opq 50) ++ [(43, FB)]) st) [] [])) [1, 2, 4, 5, 44, 45] noL = some (⟨3, 164, mnT5 [2, 3], [], .run, .normal, [], [], [i64 (v 3), ptr0 61, FB, .opq 50, i64 (v 3), .opq 50]⟩, []) := by kernel_rfl
theorem mnDLow (st : Nat → Value) : cfgLow 100 (cfg (mnF mnT4 (mnB0 (.opq 50) ++ [(43, FB)]) st) [] []) = true := by kernel_rfl
theorem mnEn (z : Bool) (st : Nat → Value) : seeF (runZ [] (exM z) 18 [100] (cfg (mnF (mnT5 [3]) (mnB0 .nilIface ++ [(46, .opq 51)]) st) [] [])) [1, 2, 4, 5, 6, 7] noL = some (⟨3, 164, mnT6, [], .run, .normal, [], [(100, exB z)], [i64 (v 3), ptr0 61, FB, .nilIface, .opq 51, ptr0 100]⟩, []) := by cases z <;> kernel_rfl
theorem mnEnLow (st : Nat → Value) : cfgLow 100 (cfg (mnF (mnT5 [3]) (mnB0 .nilIface ++ [(46, .opq 51)]) st) [] []) = true := by kernel_rfl
theorem mnE (z : Bool) (t : Nat) (st : Nat → Value) : seeF (runZ [] (exM z) 20 [101, 100] (cfg (mnF (mnT5 [3]) (mnB0 (.iface t (.opq 50)) ++ [(46, .opq 51)]) st) [] [])) [1, 2, 4, 5, 6, 7, 51, 53] noL = some (⟨3, 164, mnT8 [4, 5, 6], [], .run, .normal, [], [(101, .cells [i64 (v 3)] 3), (100, exB z)], [i64 (v 3), ptr0 61, FB, .iface t (.opq 50), .opq 51, ptr0 100, .slice (some ⟨.dyn 101, .lit 0⟩) (.lit 1) (.lit 1), mkS z]⟩, []) := by cases z <;> kernel_rfl
theorem mnELow (t : Nat) (st : Nat → Value) : cfgLow 100 (cfg (mnF (mnT5 [3]) (mnB0 (.iface t (.opq 50)) ++ [(46, .opq 51)]) st) [] []) = true := by kernel_rfl
theorem r8Some : (r8O[4]?).isSome = true := by kernel_rfl
noncomputable def r8Op : Oper := (r8O[4]?).get r8Some
theorem r8Is : r8O[4]? = some r8Op := (Option.some_get _).symm
theorem r8Do : r8Op.op = .call { callee := .builtin .append, args := #[.tmp 51, .tmp 53], argTypes := #[22, 22] } := by kernel_rfl
theorem r8G : r8Op.guard = none := by kernel_rfl
theorem r8D : r8Op.dst = some 54 := by kernel_rfl
theorem r8Ty : r8Op.type = 22 := by kernel_rfl
end Go.Proofs.YtojifefdokekpaaDoor
set_option maxRecDepth 100000
set_option linter.unusedVariables false
set_option linter.unusedSimpArgs false
namespace Go.Proofs.YtojifefdokekpaaDoor
open Go.Proofs.YtojifefdokekpaaDoor.SX Go.Conc
section
variable {w : World} {cs : List Frame} {fr : Frame} {e s : Value} {kd X : Nat} {n num : Int} {l : List Int}
theorem mn_wrap (h : ErrAt w e l kd n) (hf : FA 3 164 mnT4 [] .normal ((43, .bool false) :: r3B e X num) fr) :
    Goes (G fr cs) w fun g' w' => ∃ fr' u, g' = G fr' cs ∧ Fresh w w' ∧ ErrAt w' u (if kd = 0 then [] else num :: l) kd n ∧ FA 3 164 (mnT5 [3]) [] .normal (r3B e X num ++ [(46, u)]) fr' := by
  have hf' : FA 3 164 mnT4 [] .normal (r3B e X num ++ [(43, .bool false)]) fr := hf.sub fun q hq => by
    rcases List.mem_append.1 hq with hq | hq
    · exact List.mem_cons_of_mem _ hq
    · obtain rfl := List.mem_singleton.1 hq
      exact List.mem_cons_self ..
  refine (pieceF (ρ := mkE [(3, num)] [(61, X)] [(50, e)]) (mnD (stOf fr)) rfl rfl (mnDLow _) (by kernel_rfl) (hf'.rel (.inl rfl) (mnB0 (.opq 50) ++ [(43, FB)]) rfl rfl) (fun q hq => by cases hq) (fun q hq => by cases hq) List.nodup_nil).trans fun g1 w1 hd => ?_
  obtain ⟨ρ', fr1, rfl, f1, Ag, F1, _⟩ := hd
  have i3 : ρ'.i 3 = num := Ag.i 3 (by decide)
  have b61 : ρ'.b 61 = X := Ag.b 61 (by decide)
  have v50 : ρ'.v 50 = e := congrFun Ag.v 50
  have F1' : FA 3 164 (mnT5 [2, 3]) [] .normal [(1, iV num), (2, ptrV X), (4, .bool false), (5, e), (44, iV num), (45, e)] fr1 := by
    rw [← i3, ← b61, ← v50]; exact F1
  refine (op_call (ρ := mkE [] [] [(50, iV num), (51, e)]) (lA := [(44, .opq 50), (45, .opq 51)]) (bs := []) (mem := []) (f := 12) (args := [.opq 50, .opq 51]) (d := 46) (Q := fun v w' => Fresh w1 w' ∧ ErrAt w' v (if kd = 0 then [] else num :: l) kd n) F1' (fun q hq => ?_) (fun st => by kernel_rfl) (fun st => by kernel_rfl) (fun st => by kernel_rfl) (fun p hp => by cases hp) (fun p hp => by cases hp) (by kernel_rfl) (by decide) rfl (fun w2 f2 => (wrap_all (h.keep (f1.trans f2))).mono fun v w3 O => ⟨f2.trans O.1, O.2⟩)).mono fun g2 w2 hd2 => ?_
  · rcases List.mem_cons.1 hq with rfl | hq
    · exact List.mem_of_getElem? (i := 4) rfl
    · obtain rfl := List.mem_singleton.1 hq
      exact List.mem_of_getElem? (i := 5) rfl
  obtain ⟨fr2, u, rfl, ⟨f2, hu⟩, F2⟩ := hd2
  refine ⟨fr2, u, rfl, f1.trans f2, hu, F2.sub fun q hq => ?_⟩
  rcases List.mem_append.1 hq with hq | hq
  · simp only [r3B, List.mem_cons, List.not_mem_nil, or_false] at hq
    rcases hq with rfl | rfl | rfl | rfl
    · exact List.mem_cons_of_mem _ (List.mem_filter.2 ⟨List.mem_of_getElem? (i := 0) rfl, rfl⟩)
    · exact List.mem_cons_of_mem _ (List.mem_filter.2 ⟨List.mem_of_getElem? (i := 1) rfl, rfl⟩)
    · exact List.mem_cons_of_mem _ (List.mem_filter.2 ⟨List.mem_of_getElem? (i := 2) rfl, rfl⟩)
    · exact List.mem_cons_of_mem _ (List.mem_filter.2 ⟨List.mem_of_getElem? (i := 3) rfl, rfl⟩)
  · obtain rfl := List.mem_singleton.1 hq
    exact List.mem_cons_self ..
end
end Go.Proofs.YtojifefdokekpaaDoor
set_option maxRecDepth 100000
set_option linter.unusedVariables false
set_option linter.unusedSimpArgs false
namespace Go.Proofs.YtojifefdokekpaaDoor
open Go.Proofs.YtojifefdokekpaaDoor.SX Go.Conc
section
variable {w : World} {cs : List Frame} {fr : Frame} {s : Value} {K n num : Int} {l : List Int}
theorem numOf_zero (k : Nat) (n : Int) : k = 0 ∨ k = 5 → numOf k n = 0 := fun h => if_pos h
theorem I64_num {k : Nat} (h : I64 n) : I64 (numOf k n) := by
  unfold numOf
  split
  · exact ⟨by decide, by decide⟩
  · exact h
theorem lst_len (k : Nat) (l : List Int) : (lstOf k l).length ≤ 1000 := by
  unfold lstOf
  split
  · simp
  · rw [List.length_take]; omega
theorem lst_I {k : Nat} (h : ∀ x ∈ l, I64 x) : ∀ x ∈ lstOf k l, I64 x := by
  unfold lstOf
  split
  · intro x hx; cases hx
  · exact fun x hx => h x (List.mem_of_mem_take hx)
theorem mn_in (h : NumsAt w s l) (hl : ∀ x ∈ l, I64 x) (hn : I64 n) (hp : PlainAt w) (hty : TypeAt w) (ht : TabAt w) (hf : FA 3 164 [.code (bodyOf Tryd.f3)] [] .normal [(0, .agg #[iV K, iV n, s]), (1, iV num)] fr) :
    Goes (G fr cs) w fun g' w' => ∃ fr' e u X, g' = G fr' cs ∧ Fresh w w' ∧ R3 w' e u (kOf K) X (numOf (kOf K) n) num (lstOf (kOf K) l) ∧ FA 3 164 mnT3 [] .normal (r3B e X num) fr' := by
  obtain ⟨z, A, o, c, rfl, hz, hc, hel⟩ := nums_form h
  obtain ⟨ρ, hρ⟩ : ∃ ρ : Env, ρ = mkE [(1, K), (2, n), (3, num), (51, l.length), (52, c), (53, o)] [(50, A)] [] := ⟨_, rfl⟩
  have es : (mkS z).ev ρ = hdV z A o l.length c := by rw [hρ]; cases z <;> rfl
  refine (pieceF (ρ := ρ) (mnA z (stOf fr)) rfl rfl (mnALow z _) (by kernel_rfl) (hf.rel (.inl rfl) [(0, exA z), (1, i64 (v 3))] (by
    show [(0, Value.agg #[iV (ρ.i 1), iV (ρ.i 2), (mkS z).ev ρ]), (1, iV (ρ.i 3))] = _
    rw [es, hρ]; rfl) rfl) (fun q hq => by cases hq) (fun q hq => by cases hq) one_nodup).trans fun g1 w1 hd => ?_
  obtain ⟨ρ1, fr1, rfl, f1, Ag1, F1, bl⟩ := hd
  obtain ⟨gX, hX⟩ := bl _ (List.mem_singleton.2 rfl)
  have gX : w.heap.size ≤ ρ1.b 100 := gX
  have i1 : ρ1.i 1 = K := (Ag1.i 1 (by decide)).trans (by rw [hρ]; rfl)
  have i2 : ρ1.i 2 = n := (Ag1.i 2 (by decide)).trans (by rw [hρ]; rfl)
  have i3 : ρ1.i 3 = num := (Ag1.i 3 (by decide)).trans (by rw [hρ]; rfl)
  have es1 : (mkS z).ev ρ1 = hdV z A o l.length c := by rw [AV.ev_agree Ag1 (mkS z) (by cases z <;> exact AV.low_in _ (by kernel_rfl)), es]
  have hX : (Blk.obj 24 [iV (ρ1.i 1), iV (ρ1.i 2), (mkS z).ev ρ1]).at Tryd.prog w1 (ρ1.b 100) := hX
  have F1' : FA 3 164 (mnT1 [1, 2]) [] .normal [(1, iV num), (2, ptrV (ρ1.b 100)), (4, .bool false), (16, .agg #[iV K, iV n, hdV z A o l.length c])] fr1 := by
    have e0 : [1, 2, 4, 16].zip (AV.evs ρ1 [i64 (v 3), ptr0 100, FB, exA z]) = [(1, iV num), (2, ptrV (ρ1.b 100)), (4, .bool false), (16, .agg #[iV K, iV n, hdV z A o l.length c])] := by
      show [(1, iV (ρ1.i 3)), (2, ptrV (ρ1.b 100)), (4, Value.bool false), (16, Value.agg #[iV (ρ1.i 1), iV (ρ1.i 2), (mkS z).ev ρ1])] = _
      rw [i1, i2, i3, es1]
    rw [← e0]; exact F1
  refine (op_call (ρ := mkE [] [] [(50, .agg #[iV K, iV n, hdV z A o l.length c])]) (lA := [(16, .opq 50)]) (bs := []) (mem := []) (f := 4) (args := [.opq 50]) (d := 17) (Q := fun v w' => Fresh w1 w' ∧ ∃ u, v = errV (kOf K) (numOf (kOf K) n) u ∧ (kOf K = 0 → u = nilV) ∧ ∀ W, NumsAt W (hdV z A o l.length c) l → NumsAt W u (lstOf (kOf K) l)) F1' (fun q hq => List.mem_of_getElem? (i := 3) (by rw [List.mem_singleton.1 hq]; rfl)) (fun st => by kernel_rfl) (fun st => by kernel_rfl) (fun st => by kernel_rfl) (fun p hp => by cases hp) (fun p hp => by cases hp) (by kernel_rfl) (by decide) rfl (fun w2 f2 => (brought_all (h.keep (f1.trans f2))).mono fun v w3 O => ⟨f2.trans O.1, O.2⟩)).trans fun g2 w2 hd2 => ?_
  obtain ⟨fr2, vv, rfl, ⟨f2, u, rfl, hu0, hu⟩, F2⟩ := hd2
  obtain ⟨k, hk⟩ : ∃ k, k = kOf K := ⟨_, rfl⟩
  obtain ⟨m, hm⟩ : ∃ m, m = numOf k n := ⟨_, rfl⟩
  obtain ⟨L, hL⟩ : ∃ L, L = lstOf k l := ⟨_, rfl⟩
  rw [← hk] at F2 hu hu0
  rw [← hL] at hu
  rw [← hm] at F2
  obtain ⟨z2, A2, o2, c2, rfl, hz2, _, hel2⟩ := nums_form (hu w h)
  have F2' : FA 3 164 (mnT1 [2]) [] .normal [(1, iV num), (2, ptrV (ρ1.b 100)), (4, .bool false), (17, errV k m (hdV z2 A2 o2 L.length c2))] fr2 := F2.sub fun q hq => by
    simp only [List.mem_cons, List.not_mem_nil, or_false] at hq
    rcases hq with rfl | rfl | rfl | rfl
    · exact List.mem_cons_of_mem _ (List.mem_filter.2 ⟨List.mem_of_getElem? (i := 0) rfl, rfl⟩)
    · exact List.mem_cons_of_mem _ (List.mem_filter.2 ⟨List.mem_of_getElem? (i := 1) rfl, rfl⟩)
    · exact List.mem_cons_of_mem _ (List.mem_filter.2 ⟨List.mem_of_getElem? (i := 2) rfl, rfl⟩)
    · exact List.mem_cons_self ..
  obtain ⟨σ, hσ⟩ : ∃ σ : Env, σ = mkE [(1, k), (2, m), (3, num), (51, L.length), (52, c2), (53, o2), (11, ρ1.i 1), (12, ρ1.i 2)] [(50, A2), (61, ρ1.b 100)] [(63, (mkS z).ev ρ1)] := ⟨_, rfl⟩
  have es2 : (mkS z2).ev σ = hdV z2 A2 o2 L.length c2 := by rw [hσ]; cases z2 <;> rfl
  have s61 : σ.b 61 = ρ1.b 100 := by rw [hσ]; rfl
  refine (pieceW (ρ := σ) mnP [(61, exB z2)] (mnB z2 (stOf fr2)) rfl rfl (mnBLow z2 _) (by kernel_rfl) (F2'.rel (.inl rfl) [(1, i64 (v 3)), (2, ptr0 61), (4, FB), (17, exA z2)] (by
    show [(1, iV (σ.i 3)), (2, ptrV (σ.b 61)), (4, Value.bool false), (17, Value.agg #[iV (σ.i 1), iV (σ.i 2), (mkS z2).ev σ])] = _
    rw [es2, hσ]; rfl) rfl) (fun q hq => by cases hq) (fun q hq => by cases hq) (fun q hq => ?_) one_nodup one_nodup).trans fun g3 w3 hd3 => ?_
  · obtain rfl := List.mem_singleton.1 hq
    exact ⟨.obj 24 [iV (ρ1.i 1), iV (ρ1.i 2), (mkS z).ev ρ1], by show (Blk.obj 24 _).at Tryd.prog w2 (σ.b 61); rw [s61]; exact blk_keep hX f2, rfl, by rw [hσ]; rfl⟩
  obtain ⟨ρ3, fr3, rfl, kp3, Ag3, F3, bl3⟩ := hd3
  have j1 : ρ3.i 1 = k := (Ag3.i 1 (by decide)).trans (by rw [hσ]; rfl)
  have j2 : ρ3.i 2 = m := (Ag3.i 2 (by decide)).trans (by rw [hσ]; rfl)
  have j3 : ρ3.i 3 = num := (Ag3.i 3 (by decide)).trans (by rw [hσ]; rfl)
  have b61 : ρ3.b 61 = ρ1.b 100 := (Ag3.b 61 (by decide)).trans s61
  have es3 : (mkS z2).ev ρ3 = hdV z2 A2 o2 L.length c2 := by rw [AV.ev_agree Ag3 (mkS z2) (by cases z2 <;> exact AV.low_in _ (by kernel_rfl)), es2]
  have hX3 : (Blk.obj 24 [iV (ρ3.i 1), iV (ρ3.i 2), (mkS z2).ev ρ3]).at Tryd.prog w3 (ρ3.b 61) := (bl3 _ (List.mem_singleton.2 rfl)).2
  rw [j1, j2, es3, b61] at hX3
  have f12 : Fresh w w2 := f1.trans f2
  have f3 : Fresh w w3 := Keeps.trans f12 (kp3.mono fun q hq => by
    rcases hq with hq | ⟨y, hy, e⟩
    · exact Nat.le_trans f12.size hq
    · obtain rfl := List.mem_singleton.1 hy
      have e : σ.b 61 = q := e
      rw [← e, s61]; exact gX)
  have hu3 : NumsAt w3 (hdV z2 A2 o2 L.length c2) L := (hu w h).keep f3
  have hk0 : k = 0 → L = [] := fun h0 => by rw [hL, h0]; rfl
  have hlen : L.length ≤ 1000 := by rw [hL]; exact lst_len k l
  have F3' : FA 3 164 (mnT2 [1, 2]) [] .normal [(1, iV num), (2, ptrV (ρ1.b 100)), (4, .bool false), (18, errV k m (hdV z2 A2 o2 L.length c2))] fr3 := by
    have e0 : [1, 2, 4, 18].zip (AV.evs ρ3 [i64 (v 3), ptr0 61, FB, exA z2]) = [(1, iV num), (2, ptrV (ρ1.b 100)), (4, .bool false), (18, errV k m (hdV z2 A2 o2 L.length c2))] := by
      show [(1, iV (ρ3.i 3)), (2, ptrV (ρ3.b 61)), (4, Value.bool false), (18, Value.agg #[iV (ρ3.i 1), iV (ρ3.i 2), (mkS z2).ev ρ3])] = _
      rw [j1, j2, j3, b61, es3]; rfl
    rw [← e0]; exact F3
  refine (op_call (ρ := mkE [] [] [(50, errV k m (hdV z2 A2 o2 L.length c2))]) (lA := [(18, .opq 50)]) (bs := []) (mem := []) (f := 5) (args := [.opq 50]) (d := 19) (Q := fun v w' => Fresh w3 w' ∧ ErrAt w' v L k m) F3' (fun q hq => List.mem_of_getElem? (i := 3) (by rw [List.mem_singleton.1 hq]; rfl)) (fun st => by kernel_rfl) (fun st => by kernel_rfl) (fun st => by kernel_rfl) (fun p hp => by cases hp) (fun p hp => by cases hp) (by kernel_rfl) (by decide) rfl (fun w4 f4 => (make_all (hp.keep (f3.trans f4)) (hu3.keep f4) (hk ▸ kOf_lt K) hk0 (by omega)).mono fun v w5 O => ⟨f4.trans O.1, O.2⟩)).trans fun g4 w4 hd4 => ?_
  obtain ⟨fr4, e, rfl, ⟨f4, he⟩, F4⟩ := hd4
  have F4' : FA 3 164 (mnT2 [2]) [] .normal [(1, iV num), (2, ptrV (ρ1.b 100)), (4, .bool false), (19, e)] fr4 := F4.sub fun q hq => by
    simp only [List.mem_cons, List.not_mem_nil, or_false] at hq
    rcases hq with rfl | rfl | rfl | rfl
    · exact List.mem_cons_of_mem _ (List.mem_filter.2 ⟨List.mem_of_getElem? (i := 0) rfl, rfl⟩)
    · exact List.mem_cons_of_mem _ (List.mem_filter.2 ⟨List.mem_of_getElem? (i := 1) rfl, rfl⟩)
    · exact List.mem_cons_of_mem _ (List.mem_filter.2 ⟨List.mem_of_getElem? (i := 2) rfl, rfl⟩)
    · exact List.mem_cons_self ..
  refine (pieceF (ρ := mkE [(3, num)] [(61, ρ1.b 100)] [(60, e)]) (mnC (stOf fr4)) rfl rfl (mnCLow _) (by kernel_rfl) (F4'.rel (.inl rfl) [(1, i64 (v 3)), (2, ptr0 61), (4, FB), (19, .opq 60)] rfl rfl) (fun q hq => by cases hq) (fun q hq => by cases hq) List.nodup_nil).mono fun g5 w5 hd5 => ?_
  obtain ⟨ρ5, fr5, rfl, f5, Ag5, F5, _⟩ := hd5
  have k3 : ρ5.i 3 = num := Ag5.i 3 (by decide)
  have k61 : ρ5.b 61 = ρ1.b 100 := Ag5.b 61 (by decide)
  have k60 : ρ5.v 60 = e := congrFun Ag5.v 60
  have f35 : Fresh w3 w5 := f4.trans f5
  have fw : Fresh w w5 := f3.trans f35
  have hI : ∀ x ∈ L, I64 x := by rw [hL]; exact lst_I hl
  have hN : I64 m := by rw [hm]; exact I64_num hn
  rw [← hk, ← hm, ← hL]
  refine ⟨fr5, e, hdV z2 A2 o2 L.length c2, ρ1.b 100, rfl, fw, ⟨he.keep f5, f35.cell (blk_cell hX3 (i := 0) rfl), f35.cell (blk_cell hX3 (i := 1) rfl), f35.cell (blk_cell hX3 (i := 2) rfl), hu3.keep f35, hI, hN, hk0, hu0, fun h => by rw [hm]; exact numOf_zero k n h, hlen, fw.cell hty, ht.keep fw⟩, ?_⟩
  unfold r3B
  rw [← k3, ← k61, ← k60]
  exact F5
end
end Go.Proofs.YtojifefdokekpaaDoor
set_option maxRecDepth 100000
set_option linter.unusedVariables false
set_option linter.unusedSimpArgs false
namespace Go.Proofs.YtojifefdokekpaaDoor
open Go.Proofs.YtojifefdokekpaaDoor.SX Go.Conc
noncomputable def slO : AV := .slice (some ⟨.dyn 55, .lit 0⟩) (v 57) (v 58)
noncomputable def mnBG : List (Nat × AV) := [(1, i64 (v 3)), (2, ptr0 61), (4, FB), (5, .opq 50), (6, .opq 51), (7, ptr0 62), (54, slO)]
noncomputable def mnPG : List (Nat × ABlk) := [(62, .cells [i64 (v 1), i64 (v 2), .opq 53] 24)]
theorem mnG (st : Nat → Value) : seeF (runZ [] [] 5 [62] (cfg (mnF (mnT8 [5, 6]) mnBG st) [] mnPG)) [1, 2, 4, 5, 6, 7] noL = some (⟨3, 164, mnT6, [], .run, .normal, [], [(62, .cells [i64 (v 1), i64 (v 2), slO] 24)], [i64 (v 3), ptr0 61, FB, .opq 50, .opq 51, ptr0 62]⟩, []) := by kernel_rfl
theorem mnGLow (st : Nat → Value) : cfgLow 100 (cfg (mnF (mnT8 [5, 6]) mnBG st) [] mnPG) = true := by kernel_rfl
noncomputable def r9O : Array Oper := opsOf (mnQ [1,1,1,1,1,1,1,0,0])
theorem r9Draw : isDraw (mnQ [1,1,1,1,1,1,1,0,0]) = true := by kernel_rfl
theorem r9Size : r9O.size = 31 := by kernel_rfl
theorem r9Pre : ((List.range 31).all fun i => (preN r9O i).all fun p => Nat.blt p i) = true := by kernel_rfl
noncomputable def mnT9 : List Item := [.inRegion r9O [], .code (mnQ [1,1,1,1,1,1,1,0,1]), .code (mnQ [1,1,1,1,1,1,1,1])]
noncomputable def mnTA (l : List Nat) : List Item := [.inRegion (opsOf (mnQ [1,1,1,1,1,1,1,1,0])) l, .code (mnQ [1,1,1,1,1,1,1,1,1])]
noncomputable def mnTB : List Item := [.code (mnQ [1,1,1,1,1,1,1,1,1,0,1,0,0]), .inLoop (mnQ [1,1,1,1,1,1,1,1,1,0,1,0,0]), .inBlock 0, .code (mnQ [1,1,1,1,1,1,1,1,1,1])]
noncomputable def mnTC : List Item := [.code (mnQ [1,1,1,1,1,1,1,1,1,1,1,1,1,1,1,1,0]), .code (mnQ [1,1,1,1,1,1,1,1,1,1,1,1,1,1,1,1,1])]
noncomputable def r22O : Array Oper := opsOf (mnQ [1,1,1,1,1,1,1,1,1,1,1,1,1,1,1,1,0])
theorem r22Draw : isDraw (mnQ [1,1,1,1,1,1,1,1,1,1,1,1,1,1,1,1,0]) = true := by kernel_rfl
theorem r22Size : r22O.size = 19 := by kernel_rfl
theorem r22Pre : ((List.range 19).all fun i => (preN r22O i).all fun p => Nat.blt p i) = true := by kernel_rfl
noncomputable def mnB9 : List (Nat × AV) := [(2, ptr0 61), (6, .opq 51), (7, ptr0 62)]
theorem mnH (st : Nat → Value) : seeF (runZ [] [] 6 [] (cfg (mnF mnT9 (mnB9 ++ [(86, FB)]) st) [] [])) [2, 6, 7, 87] noL = some (⟨3, 164, mnTA [1, 2], [], .run, .normal, [], [], [ptr0 61, .opq 51, ptr0 62, .opq 51]⟩, []) := by kernel_rfl
theorem mnHLow (st : Nat → Value) : cfgLow 100 (cfg (mnF mnT9 (mnB9 ++ [(86, FB)]) st) [] []) = true := by kernel_rfl
theorem mnI (st : Nat → Value) : seeF (runZ [] [] 9 [] (cfg (mnF (mnTA [2]) (mnB9 ++ [(88, .opq 52)]) st) [] [])) [2, 6, 7, 8, 9] noL = some (⟨3, 164, mnTB, [], .run, .normal, [], [], [ptr0 61, .opq 51, ptr0 62, .opq 52, i64 (.lit 0)]⟩, []) := by kernel_rfl
theorem mnILow (st : Nat → Value) : cfgLow 100 (cfg (mnF (mnTA [2]) (mnB9 ++ [(88, .opq 52)]) st) [] []) = true := by kernel_rfl
noncomputable def slF : AV := .slice (some ⟨.dyn 54, .lit 0⟩) (v 51) (v 59)
noncomputable def mnBJ : List (Nat × AV) := mnB9 ++ [(8, slF), (9, i64 (v 9))]
noncomputable def mnPJ (ws : List (IE × AV)) : List (Nat × ABlk) := [(54, .pre false 65 (v 51) [(.tn (v 9), .opq 66)] ws [] 3 (v 59))]
theorem mnJ (st : Nat → Value) : seeF (runZ (ltB 9 51) [] 25 [54] (cfg (mnF mnTB mnBJ st) [] (mnPJ []))) [2, 6, 7, 8, 9] noL = some (⟨3, 164, mnTB, [], .run, .normal, [], mnPJ [(.tn (v 9), i64 (.lit (-5)))], [ptr0 61, .opq 51, ptr0 62, slF, i64 (.op .add .i64 (v 9) (.lit 1))]⟩, []) := by kernel_rfl
theorem mnJLow (st : Nat → Value) : cfgLow 100 (cfg (mnF mnTB mnBJ st) [] (mnPJ [])) = true := by kernel_rfl
theorem mnK (st : Nat → Value) : seeF (runZ [(.cmp .lss (v 9) (.tn (v 51)), false)] [] 253 [] (cfg (mnF mnTB mnBJ st) [] [])) [2, 6, 7, 14, 15] noL = some (⟨3, 164, mnTC, [], .run, .normal, [], [], [ptr0 61, .opq 51, ptr0 62, nilP, TB]⟩, []) := by kernel_rfl
theorem mnKLow (st : Nat → Value) : cfgLow 100 (cfg (mnF mnTB mnBJ st) [] []) = true := by kernel_rfl
noncomputable def mnBN : List (Nat × AV) := mnB9 ++ [(8, nilA), (9, i64 (.lit 0))]
theorem mnKn (st : Nat → Value) : seeF (runZ [] [] 253 [] (cfg (mnF mnTB mnBN st) [] [])) [2, 6, 7, 14, 15] noL = some (⟨3, 164, mnTC, [], .run, .normal, [], [], [ptr0 61, .opq 51, ptr0 62, nilP, TB]⟩, []) := by kernel_rfl
theorem mnKnLow (st : Nat → Value) : cfgLow 100 (cfg (mnF mnTB mnBN st) [] []) = true := by kernel_rfl
noncomputable def mnTZ : List Item := [.inRegion r22O [], .code (mnQ [1,1,1,1,1,1,1,1,1,1,1,1,1,1,1,1,1])]
theorem mnZ (st : Nat → Value) : seeF (runZ [] [] 1 [] (cfg (mnF mnTZ [(4, TB)] st) [] [])) [4] noL = some (⟨3, 164, .code .ret :: [], [], .run, .normal, [], [], [TB]⟩, []) := by kernel_rfl
theorem mnZLow (st : Nat → Value) : cfgLow 100 (cfg (mnF mnTZ [(4, TB)] st) [] []) = true := by kernel_rfl
noncomputable def natM : List (AA × AV) := [(⟨.glob 1, .lit 0⟩, rty 27)]
noncomputable def natL : List (Nat × AV) := [(0, .iface 44 nilP)]
theorem natIn (st : Nat → Value) : seeF (runZ [] natM 142 [] (cfg (nmF [.code (bodyOf Tryd.f9)] natL st) [] [])) [2] noL = some (⟨9, 25, .code .ret :: nmR, [], .run, .normal, [], [], [nilA]⟩, []) := by kernel_rfl
theorem nat_all {w : World} (hty : TypeAt w) : Ans 9 #[.iface 44 (.pointer none)] w fun v w' => Fresh w w' ∧ v = nilV := by
  refine (ansP (ρ := mkE [] [] []) (lA := natL) (enter1 ent9 rfl (.iface 44 (.pointer none))) rfl natIn (fun st => by kernel_rfl) (by kernel_rfl) (fun st => by kernel_rfl) (fun p hp => by cases hp) (fun p hp => by
    obtain rfl := List.mem_singleton.1 hp
    exact hty) List.nodup_nil).mono fun v w' hd => ?_
  obtain ⟨f1, ρ', Ag, rfl, _⟩ := hd
  exact ⟨f1, rfl⟩
end Go.Proofs.YtojifefdokekpaaDoor
set_option maxRecDepth 100000
set_option linter.unusedVariables false
set_option linter.unusedSimpArgs false
namespace Go.Proofs.YtojifefdokekpaaDoor
open Go.Proofs.YtojifefdokekpaaDoor.SX Go.Conc
structure R9 (w0 : World) (u s s' : Value) (kd X Y : Nat) (n : Int) (L : List Int) : Prop where
  err : ErrAt w0 u L kd n
  c0 : w0.cell? ⟨X, 0, none⟩ = some (iV kd)
  c1 : w0.cell? ⟨X, 1, none⟩ = some (iV n)
  c2 : w0.cell? ⟨X, 2, none⟩ = some s
  y0 : w0.cell? ⟨Y, 0, none⟩ = some (iV kd)
  y1 : w0.cell? ⟨Y, 1, none⟩ = some (iV n)
  y2 : w0.cell? ⟨Y, 2, none⟩ = some s'
  nums : NumsAt w0 s' L
  ne : NumsNe w0 s' L
  lI : ∀ x ∈ L, I64 x
  nI : I64 n
  k0 : kd = 0 → L = []
  kn : kd = 0 ∨ kd = 5 → n = 0
  len : L.length ≤ 1001
  ty : TypeAt w0
  tab : TabAt w0
def r9B (u : Value) (X Y : Nat) : List (Nat × Value) := [(2, ptrV X), (6, u), (7, ptrV Y)]
theorem exM_low (z : Bool) : (OO [] (exM z)).low 100 = true := by cases z <;> kernel_rfl
theorem mkS_low (z : Bool) : AV.low 100 (mkS z) = true := by cases z <;> kernel_rfl
theorem app_ne {w w' : World} {P : List Int} {x : Int} {B : Nat} {v : Value} (h : AppOut w [x] P (hdV false B 0 1 1) v w') (hB : (Blk.obj 3 [iV x]).at Tryd.prog w' B) : ∃ B' C, v = slV B' 0 (x :: P).length C ∧ (x :: P).length ≤ C ∧ (B' = B ∨ B' = w.heap.size) ∧ ∀ i n, (x :: P)[i]? = some n → w'.cell? ⟨B', 0 + i, none⟩ = some (iV n) := by
  rcases h with ⟨rfl, rfl⟩ | ⟨h, C, rfl, hv⟩
  · refine ⟨B, 1, rfl, Nat.le_refl _, .inl rfl, fun i n hi => ?_⟩
    cases i with
    | zero =>
      obtain rfl : x = n := Option.some.inj hi
      exact blk_cell hB (i := 0) rfl
    | succ i => cases hi
  · refine ⟨w.heap.size, C, rfl, ?_, .inr rfl, fun i n hi => ?_⟩
    · obtain ⟨arr, rest, inf, h1, h2, h3, h4⟩ := hv
      have := congrArg List.length h3
      rw [size3 inf h2] at h4
      have e : ((x :: P).map iV).length = (x :: P).length := List.length_map _
      have e2 : (([x] ++ P).map iV).length = (x :: P).length := e
      rw [List.length_append, e2] at this
      have : arr.size = arr.toList.length := rfl
      omega
    · rw [Nat.zero_add]
      refine Blk.at_cell hv ?_
      show ((x :: P).map iV)[i]? = some (iV n)
      rw [List.getElem?_map, hi]; rfl
section
variable {w : World} {cs : List Frame} {fr : Frame} {e u s : Value} {kd X : Nat} {n num : Int} {l : List Int}
theorem mn_more (H : R3 w e s kd X n num l) (hnum : I64 num) (hu : ErrAt w u (if kd = 0 then [] else num :: l) kd n) (hf : FA 3 164 (mnT5 [3]) [] .normal (r3B e X num ++ [(46, u)]) fr) :
    Goes (G fr cs) w fun g' w' => ∃ fr' Y s', g' = G fr' cs ∧ Fresh w w' ∧ R9 w' u s s' kd X Y n (if kd = 0 then [] else num :: l) ∧ FA 3 164 mnT6 [] .normal (r9B u X Y) fr' := by
  have sub9 : ∀ {e : Value} {Y : Nat} {fr : Frame}, FA 3 164 mnT6 [] .normal [(1, iV num), (2, ptrV X), (4, .bool false), (5, e), (6, u), (7, ptrV Y)] fr → FA 3 164 mnT6 [] .normal (r9B u X Y) fr := fun {e Y fr} F => F.sub fun q hq => by
    simp only [r9B, List.mem_cons, List.not_mem_nil, or_false] at hq
    rcases hq with rfl | rfl | rfl
    · exact List.mem_of_getElem? (i := 1) rfl
    · exact List.mem_of_getElem? (i := 4) rfl
    · exact List.mem_of_getElem? (i := 5) rfl
  by_cases h0 : kd = 0
  · subst h0
    rw [if_pos rfl] at hu ⊢
    obtain ⟨rfl, rfl⟩ := H.err.nil_is
    obtain rfl := H.s0 rfl
    refine (pieceF (ρ := mkE [(1, 0), (2, n), (3, num)] [(61, X)] [(51, u)]) (mnEn true (stOf fr)) rfl rfl (mnEnLow _) (by kernel_rfl) (hf.rel (.inl rfl) (mnB0 .nilIface ++ [(46, .opq 51)]) rfl rfl) (fun q hq => by cases hq) (fun q hq => ?_) one_nodup).mono fun g1 w1 hd => ?_
    · have hq' : q = (⟨.dyn 61, .lit 0⟩, i64 (v 1)) ∨ q = (⟨.dyn 61, .lit 1⟩, i64 (v 2)) ∨ q = (⟨.dyn 61, .lit 2⟩, mkS true) := by simpa [exM] using hq
      rcases hq' with rfl | rfl | rfl
      · exact H.c0
      · exact H.c1
      · exact H.c2
    · obtain ⟨ρ', fr1, rfl, f1, Ag, F1, bl⟩ := hd
      have i1 : ρ'.i 1 = 0 := Ag.i 1 (by decide)
      have i2 : ρ'.i 2 = n := Ag.i 2 (by decide)
      have i3 : ρ'.i 3 = num := Ag.i 3 (by decide)
      have b61 : ρ'.b 61 = X := Ag.b 61 (by decide)
      have v51 : ρ'.v 51 = u := congrFun Ag.v 51
      have hY : (Blk.obj 24 [iV (ρ'.i 1), iV (ρ'.i 2), nilV]).at Tryd.prog w1 (ρ'.b 100) := (bl _ (List.mem_singleton.2 rfl)).2
      rw [i1, i2] at hY
      refine ⟨fr1, ρ'.b 100, nilV, rfl, f1, ⟨hu.keep f1, f1.cell H.c0, f1.cell H.c1, f1.cell H.c2, blk_cell hY (i := 0) rfl, blk_cell hY (i := 1) rfl, blk_cell hY (i := 2) rfl, ⟨.inl ⟨rfl, rfl⟩⟩, .inl ⟨rfl, rfl⟩, (fun x hx => by cases hx), H.nI, fun _ => rfl, H.kn, Nat.zero_le _, f1.cell H.ty, H.tab.keep f1⟩, sub9 (e := .nilIface) ?_⟩
      rw [← i3, ← b61, ← v51]
      exact F1
  · rw [if_neg h0] at hu ⊢
    obtain ⟨t, p, rfl⟩ := H.err.is h0
    obtain ⟨z, A, o, c, rfl, hz, hc, hel⟩ := nums_form H.nums
    obtain ⟨ρ, hρ⟩ : ∃ ρ : Env, ρ = mkE [(1, kd), (2, n), (3, num), (51, l.length), (52, c), (53, o)] [(61, X), (50, A)] [(50, p), (51, u)] := ⟨_, rfl⟩
    have es : (mkS z).ev ρ = hdV z A o l.length c := by rw [hρ]; cases z <;> rfl
    have hlv : told ρ (mnB0 (.iface t (.opq 50)) ++ [(46, .opq 51)]) = r3B (.iface t p) X num ++ [(46, u)] := by
      show [(1, iV (ρ.i 3)), (2, ptrV (ρ.b 61)), (4, Value.bool false), (5, Value.iface t (ρ.v 50)), (46, ρ.v 51)] = _
      rw [hρ]; rfl
    have hr : FrRel Tryd.prog ρ (mnF (mnT5 [3]) (mnB0 (.iface t (.opq 50)) ++ [(46, .opq 51)]) (stOf fr)) fr := hf.rel (.inl rfl) _ hlv rfl
    have m1 : ((101, .cells [i64 (v 3)] 3) : Nat × ABlk) ∈ [((101, .cells [i64 (v 3)] 3) : Nat × ABlk), (100, exB z)] := List.mem_cons_self ..
    have m2 : ((100, exB z) : Nat × ABlk) ∈ [((101, .cells [i64 (v 3)] 3) : Nat × ABlk), (100, exB z)] := List.mem_cons_of_mem _ (List.mem_singleton.2 rfl)
    refine (pieceI (ρ := ρ) [] [(101, .cells [i64 (v 3)] 3), (100, exB z)] (mnE z t (stOf fr)) rfl rfl (mnELow t _) (exM_low z) hr (fun q hq => by cases hq) (fun q hq => ?_) (fun q hq => by cases hq) List.nodup_nil (List.nodup_cons.2 ⟨by simp, one_nodup⟩)).trans fun g1 w1 hd => ?_
    · refine ⟨?_, fun x hx => by cases hx⟩
      have hq' : q = (⟨.dyn 61, .lit 0⟩, i64 (v 1)) ∨ q = (⟨.dyn 61, .lit 1⟩, i64 (v 2)) ∨ q = (⟨.dyn 61, .lit 2⟩, mkS z) := by simpa [exM] using hq
      rcases hq' with rfl | rfl | rfl
      · rw [hρ]; exact H.c0
      · rw [hρ]; exact H.c1
      · show w.cell? ⟨ρ.b 61, 2, none⟩ = some ((mkS z).ev ρ)
        rw [es, hρ]; exact H.c2
    obtain ⟨ρ1, fr1, rfl, kp1, Ag, F1, bl, inj⟩ := hd
    have own0 : ∀ q, ownP ρ w [] q → w.heap.size ≤ q := fun q hq => hq.elim id fun ⟨y, hy, _⟩ => (by cases hy)
    have f1 : Fresh w w1 := kp1.mono own0
    have i1 : ρ1.i 1 = kd := (Ag.i 1 (by decide)).trans (by rw [hρ]; rfl)
    have i2 : ρ1.i 2 = n := (Ag.i 2 (by decide)).trans (by rw [hρ]; rfl)
    have i3 : ρ1.i 3 = num := (Ag.i 3 (by decide)).trans (by rw [hρ]; rfl)
    have b61 : ρ1.b 61 = X := (Ag.b 61 (by decide)).trans (by rw [hρ]; rfl)
    have v50 : ρ1.v 50 = p := (congrFun Ag.v 50).trans (by rw [hρ]; rfl)
    have v51 : ρ1.v 51 = u := (congrFun Ag.v 51).trans (by rw [hρ]; rfl)
    have es1 : (mkS z).ev ρ1 = hdV z A o l.length c := by rw [AV.ev_agree Ag (mkS z) (AV.low_in _ (mkS_low z)), es]
    have hB : (Blk.obj 3 [iV (ρ1.i 3)]).at Tryd.prog w1 (ρ1.b 101) := (bl _ m1).2
    have hY : (Blk.obj 24 [iV (ρ1.i 1), iV (ρ1.i 2), (mkS z).ev ρ1]).at Tryd.prog w1 (ρ1.b 100) := (bl _ m2).2
    rw [i3] at hB
    rw [i1, i2, es1] at hY
    have gY := own0 _ (bl _ m2).1
    have hBY : ρ1.b 101 ≠ ρ1.b 100 := fun e => by
      have := inj _ m1 _ m2 e
      cases this
    have F1' : FA 3 164 (mnT8 [4, 5, 6]) [] .normal [(1, iV num), (2, ptrV X), (4, .bool false), (5, .iface t p), (6, u), (7, ptrV (ρ1.b 100)), (51, hdV false (ρ1.b 101) 0 1 1), (53, hdV z A o l.length c)] fr1 := by
      rw [← es1, ← i3, ← b61, ← v50, ← v51]; exact F1
    refine (op_append (X := [num]) (P := l) (z1 := false) (b1 := ρ1.b 101) F1' r8Is r8Do r8Ty r8G r8D (by decide) (List.mem_of_getElem? (i := 6) rfl) (List.mem_of_getElem? (i := 7) rfl) (fun h => by cases h) (fun i n hi => ?_) hz (fun i n hi => f1.cell (hel i n hi)) (by have := H.len; simp only [List.length_singleton]; omega)).trans fun g2 w2 hd2 => ?_
    · cases i with
      | zero =>
        obtain rfl : num = n := Option.some.inj hi
        exact blk_cell hB (i := 0) rfl
      | succ i => cases hi
    obtain ⟨fr2, vv, rfl, f2, hA, F2⟩ := hd2
    obtain ⟨B', C, rfl, hC, hB', hel2⟩ := app_ne hA (blk_keep hB f2)
    have F2' : FA 3 164 (mnT8 [5, 6]) [] .normal [(1, iV num), (2, ptrV X), (4, .bool false), (5, .iface t p), (6, u), (7, ptrV (ρ1.b 100)), (54, slV B' 0 (num :: l).length C)] fr2 := F2.sub fun q hq => by
      simp only [List.mem_cons, List.not_mem_nil, or_false] at hq
      rcases hq with rfl | rfl | rfl | rfl | rfl | rfl | rfl
      · exact List.mem_cons_of_mem _ (List.mem_filter.2 ⟨List.mem_of_getElem? (i := 0) rfl, rfl⟩)
      · exact List.mem_cons_of_mem _ (List.mem_filter.2 ⟨List.mem_of_getElem? (i := 1) rfl, rfl⟩)
      · exact List.mem_cons_of_mem _ (List.mem_filter.2 ⟨List.mem_of_getElem? (i := 2) rfl, rfl⟩)
      · exact List.mem_cons_of_mem _ (List.mem_filter.2 ⟨List.mem_of_getElem? (i := 3) rfl, rfl⟩)
      · exact List.mem_cons_of_mem _ (List.mem_filter.2 ⟨List.mem_of_getElem? (i := 4) rfl, rfl⟩)
      · exact List.mem_cons_of_mem _ (List.mem_filter.2 ⟨List.mem_of_getElem? (i := 5) rfl, rfl⟩)
      · exact List.mem_cons_self ..
    have hBne : B' ≠ ρ1.b 100 := by
      rcases hB' with rfl | rfl
      · exact hBY
      · have := Blk.at_lt hY
        omega
    obtain ⟨L, hL⟩ : ∃ L, L = num :: l := ⟨_, rfl⟩
    rw [← hL] at hu hC hel2 F2' ⊢
    obtain ⟨σ, hσ⟩ : ∃ σ : Env, σ = mkE [(1, kd), (2, n), (3, num), (57, L.length), (58, C)] [(61, X), (62, ρ1.b 100), (55, B')] [(50, .iface t p), (51, u), (53, hdV z A o l.length c)] := ⟨_, rfl⟩
    have s62 : σ.b 62 = ρ1.b 100 := by rw [hσ]; rfl
    refine (pieceW (ρ := σ) mnPG [(62, .cells [i64 (v 1), i64 (v 2), slO] 24)] (mnG (stOf fr2)) rfl rfl (mnGLow _) (by kernel_rfl) (F2'.rel (.inl rfl) mnBG (by rw [hσ]; rfl) rfl) (fun q hq => by cases hq) (fun q hq => by cases hq) (fun q hq => ?_) one_nodup one_nodup).mono fun g3 w3 hd3 => ?_
    · obtain rfl := List.mem_singleton.1 hq
      exact ⟨.obj 24 [iV kd, iV n, hdV z A o l.length c], by show (Blk.obj 24 _).at Tryd.prog w2 (σ.b 62); rw [s62]; exact blk_keep hY f2, rfl, by rw [hσ]; rfl⟩
    obtain ⟨ρ3, fr3, rfl, kp3, Ag3, F3, bl3⟩ := hd3
    have j1 : ρ3.i 1 = kd := (Ag3.i 1 (by decide)).trans (by rw [hσ]; rfl)
    have j2 : ρ3.i 2 = n := (Ag3.i 2 (by decide)).trans (by rw [hσ]; rfl)
    have j3 : ρ3.i 3 = num := (Ag3.i 3 (by decide)).trans (by rw [hσ]; rfl)
    have d61 : ρ3.b 61 = X := (Ag3.b 61 (by decide)).trans (by rw [hσ]; rfl)
    have d62 : ρ3.b 62 = ρ1.b 100 := (Ag3.b 62 (by decide)).trans s62
    have d50 : ρ3.v 50 = .iface t p := (congrFun Ag3.v 50).trans (by rw [hσ]; rfl)
    have d51 : ρ3.v 51 = u := (congrFun Ag3.v 51).trans (by rw [hσ]; rfl)
    have eO : slO.ev ρ3 = slV B' 0 L.length C := by rw [AV.ev_agree Ag3 slO (AV.low_in _ (by kernel_rfl)), hσ]; rfl
    have hY3 : (Blk.obj 24 [iV (ρ3.i 1), iV (ρ3.i 2), slO.ev ρ3]).at Tryd.prog w3 (ρ3.b 62) := (bl3 _ (List.mem_singleton.2 rfl)).2
    rw [j1, j2, eO, d62] at hY3
    have f12 : Fresh w w2 := f1.trans f2
    have f3 : Fresh w w3 := Keeps.trans f12 (kp3.mono fun q hq => by
      rcases hq with hq | ⟨y, hy, e⟩
      · exact Nat.le_trans f12.size hq
      · obtain rfl := List.mem_singleton.1 hy
        have e : σ.b 62 = q := e
        rw [← e, s62]; exact gY)
    have hel3 : ∀ i x, L[i]? = some x → w3.cell? ⟨B', 0 + i, none⟩ = some (iV x) := fun i x hi => cell_keep kp3 (hel2 i x hi) fun hh => by
      have hlt := cellLt (hel2 i x hi)
      have hlt : B' < w2.heap.size := hlt
      have hh : w2.heap.size ≤ B' ∨ ∃ y ∈ mnPG, σ.b y.1 = B' := hh
      rcases hh with hh | ⟨y, hy, e⟩
      · omega
      · obtain rfl := List.mem_singleton.1 hy
        have e : σ.b 62 = B' := e
        rw [s62] at e
        exact hBne e.symm
    have hLI : ∀ x ∈ L, I64 x := fun x hx => by
      rw [hL] at hx
      rcases List.mem_cons.1 hx with rfl | hx
      · exact hnum
      · exact H.lI x hx
    refine ⟨fr3, ρ1.b 100, slV B' 0 L.length C, rfl, f3, ⟨(hu.keep f3), f3.cell H.c0, f3.cell H.c1, f3.cell H.c2, blk_cell hY3 (i := 0) rfl, blk_cell hY3 (i := 1) rfl, blk_cell hY3 (i := 2) rfl, ⟨.inr ⟨B', 0, C, rfl, hC, hel3⟩⟩, .inr ⟨by rw [hL]; simp, B', 0, C, rfl, hel3⟩, hLI, H.nI, fun h => (h0 h).elim, H.kn, by rw [hL]; have := H.len; simp only [List.length_cons]; omega, f3.cell H.ty, H.tab.keep f3⟩, sub9 (e := .iface t p) ?_⟩
    rw [← j3, ← d61, ← d62, ← d51, ← d50]
    exact F3
end
end Go.Proofs.YtojifefdokekpaaDoor
set_option maxRecDepth 100000
set_option linter.unusedVariables false
set_option linter.unusedSimpArgs false
namespace Go.Proofs.YtojifefdokekpaaDoor
open Go.Proofs.YtojifefdokekpaaDoor.SX Go.Conc
noncomputable def errN : List (AA × AV) := [(⟨.dyn 62, .lit 0⟩, .opq 40), (⟨.dyn 62, .lit 1⟩, .opq 41), (⟨.dyn 62, .lit 2⟩, .opq 42)]
theorem r9_0 : OpV 164 r9O 0 [] [] [(6, .opq 50)] (.opq 50) 56 := ⟨fun st => by kernel_rfl, fun st => by kernel_rfl, fun st => by kernel_rfl, by kernel_rfl, rfl⟩
theorem r9_2 : OpV 164 r9O 2 [] errN [(7, ptr0 62)] (errA) 58 := ⟨fun st => by kernel_rfl, fun st => by kernel_rfl, fun st => by kernel_rfl, by kernel_rfl, rfl⟩
theorem r9_4 : OpV 164 r9O 4 [] [] [(59, TB)] (FB) 60 := ⟨fun st => by kernel_rfl, fun st => by kernel_rfl, fun st => by kernel_rfl, by kernel_rfl, rfl⟩
theorem r9_5 : OpV 164 r9O 5 [] [] [(60, FB)] (FB) 61 := ⟨fun st => by kernel_rfl, fun st => by kernel_rfl, fun st => by kernel_rfl, by kernel_rfl, rfl⟩
theorem r9_6 : OpV 164 r9O 6 [] [] [(61, FB), (6, .opq 50)] (.opq 50) 62 := ⟨fun st => by kernel_rfl, fun st => by kernel_rfl, fun st => by kernel_rfl, by kernel_rfl, rfl⟩
theorem r9_11 : OpV 164 r9O 11 [] errN [(64, TB), (7, ptr0 62)] (errA) 67 := ⟨fun st => by kernel_rfl, fun st => by kernel_rfl, fun st => by kernel_rfl, by kernel_rfl, rfl⟩
theorem r9_13 : OpV 164 r9O 13 [(.seq true (.var 1) (.var 1), false)] [] [(64, TB), (66, ss 1), (68, ss 1)] (FB) 69 := ⟨fun st => by kernel_rfl, fun st => by kernel_rfl, fun st => by kernel_rfl, by kernel_rfl, rfl⟩
theorem r9_15 : OpV 164 r9O 15 [] [] [(61, FB), (70, FB)] (FB) 71 := ⟨fun st => by kernel_rfl, fun st => by kernel_rfl, fun st => by kernel_rfl, by kernel_rfl, rfl⟩
theorem r9_16 : OpV 164 r9O 16 [] [] [(71, FB)] (FB) 72 := ⟨fun st => by kernel_rfl, fun st => by kernel_rfl, fun st => by kernel_rfl, by kernel_rfl, rfl⟩
theorem r9_17 : OpV 164 r9O 17 [] [] [(72, FB), (6, .opq 50)] (.opq 50) 73 := ⟨fun st => by kernel_rfl, fun st => by kernel_rfl, fun st => by kernel_rfl, by kernel_rfl, rfl⟩
theorem r9_19 : OpV 164 r9O 19 [] errM [(72, FB), (2, ptr0 61)] (errA) 75 := ⟨fun st => by kernel_rfl, fun st => by kernel_rfl, fun st => by kernel_rfl, by kernel_rfl, rfl⟩
theorem r9_21 : OpV 164 r9O 21 [nq (v 5)] [] [(72, FB), (74, i64 (v 5)), (76, i64 (v 5))] (FB) 77 := ⟨fun st => by kernel_rfl, fun st => by kernel_rfl, fun st => by kernel_rfl, by kernel_rfl, rfl⟩
theorem r9_22 : OpV 164 r9O 22 [] [] [(72, FB), (77, FB)] (FB) 78 := ⟨fun st => by kernel_rfl, fun st => by kernel_rfl, fun st => by kernel_rfl, by kernel_rfl, rfl⟩
theorem r9_23 : OpV 164 r9O 23 [] [] [(78, FB)] (FB) 79 := ⟨fun st => by kernel_rfl, fun st => by kernel_rfl, fun st => by kernel_rfl, by kernel_rfl, rfl⟩
theorem r9_24 : OpV 164 r9O 24 [] [] [(79, FB), (6, .opq 50)] (.opq 50) 80 := ⟨fun st => by kernel_rfl, fun st => by kernel_rfl, fun st => by kernel_rfl, by kernel_rfl, rfl⟩
theorem r9_26 : OpV 164 r9O 26 [] errN [(79, FB), (7, ptr0 62)] (errA) 82 := ⟨fun st => by kernel_rfl, fun st => by kernel_rfl, fun st => by kernel_rfl, by kernel_rfl, rfl⟩
theorem r9_29 : OpV 164 r9O 29 [] [] [(79, FB), (84, TB)] (FB) 85 := ⟨fun st => by kernel_rfl, fun st => by kernel_rfl, fun st => by kernel_rfl, by kernel_rfl, rfl⟩
theorem r9_30 : OpV 164 r9O 30 [] [] [(79, FB), (85, FB)] (FB) 86 := ⟨fun st => by kernel_rfl, fun st => by kernel_rfl, fun st => by kernel_rfl, by kernel_rfl, rfl⟩
theorem r9_9 : OpV 164 r9O 9 [] [] [(64, TB), (6, .opq 50)] (.opq 50) 65 := ⟨fun st => by kernel_rfl, fun st => by kernel_rfl, fun st => by kernel_rfl, by kernel_rfl, rfl⟩
theorem r9_7n : OpV 164 r9O 7 [] [] [(61, FB), (62, .nilIface)] (FB) 63 := ⟨fun st => by kernel_rfl, fun st => by kernel_rfl, fun st => by kernel_rfl, by kernel_rfl, rfl⟩
theorem r9_7t (t : Nat) : OpV 164 r9O 7 [] [] [(61, FB), (62, .iface t (.opq 50))] TB 63 := ⟨fun st => by kernel_rfl, fun st => by kernel_rfl, fun st => by kernel_rfl, by kernel_rfl, rfl⟩
theorem r9_8n : OpV 164 r9O 8 [] [] [(61, FB), (63, FB)] (FB) 64 := ⟨fun st => by kernel_rfl, fun st => by kernel_rfl, fun st => by kernel_rfl, by kernel_rfl, rfl⟩
theorem r9_8t : OpV 164 r9O 8 [] [] [(61, FB), (63, TB)] (TB) 64 := ⟨fun st => by kernel_rfl, fun st => by kernel_rfl, fun st => by kernel_rfl, by kernel_rfl, rfl⟩
theorem r9_14t : OpV 164 r9O 14 [] [] [(61, FB), (64, TB), (69, FB)] (FB) 70 := ⟨fun st => by kernel_rfl, fun st => by kernel_rfl, fun st => by kernel_rfl, by kernel_rfl, rfl⟩
theorem r9_14n : OpV 164 r9O 14 [] [] [(61, FB), (64, FB)] (FB) 70 := ⟨fun st => by kernel_rfl, fun st => by kernel_rfl, fun st => by kernel_rfl, by kernel_rfl, rfl⟩
theorem r9_9s : OpS 164 r9O 9 [(64, FB)] 65 := ⟨fun st => by kernel_rfl, fun st => by kernel_rfl, by kernel_rfl⟩
theorem r9_10s : OpS 164 r9O 10 [(64, FB)] 66 := ⟨fun st => by kernel_rfl, fun st => by kernel_rfl, by kernel_rfl⟩
theorem r9_11s : OpS 164 r9O 11 [(64, FB)] 67 := ⟨fun st => by kernel_rfl, fun st => by kernel_rfl, by kernel_rfl⟩
theorem r9_12s : OpS 164 r9O 12 [(64, FB)] 68 := ⟨fun st => by kernel_rfl, fun st => by kernel_rfl, by kernel_rfl⟩
theorem r9_13s : OpS 164 r9O 13 [(64, FB)] 69 := ⟨fun st => by kernel_rfl, fun st => by kernel_rfl, by kernel_rfl⟩
theorem r9_1 : OpC 164 r9O 1 [(56, .opq 50)] 14 [.opq 50] 57 := ⟨fun st => by kernel_rfl, fun st => by kernel_rfl, fun st => by kernel_rfl, by kernel_rfl, rfl⟩
theorem r9_3 : OpC 164 r9O 3 [(57, .opq 50), (58, .opq 51)] 13 [.opq 50, .opq 51] 59 := ⟨fun st => by kernel_rfl, fun st => by kernel_rfl, fun st => by kernel_rfl, by kernel_rfl, rfl⟩
theorem r9_12 : OpC 164 r9O 12 [(64, TB), (67, .opq 50)] 11 [.opq 50] 68 := ⟨fun st => by kernel_rfl, fun st => by kernel_rfl, fun st => by kernel_rfl, by kernel_rfl, rfl⟩
theorem r9_18 : OpC 164 r9O 18 [(72, FB), (73, .opq 50)] 6 [.opq 50] 74 := ⟨fun st => by kernel_rfl, fun st => by kernel_rfl, fun st => by kernel_rfl, by kernel_rfl, rfl⟩
theorem r9_20 : OpC 164 r9O 20 [(72, FB), (75, .opq 50)] 7 [.opq 50] 76 := ⟨fun st => by kernel_rfl, fun st => by kernel_rfl, fun st => by kernel_rfl, by kernel_rfl, rfl⟩
theorem r9_25 : OpC 164 r9O 25 [(79, FB), (80, .opq 50)] 9 [.opq 50] 81 := ⟨fun st => by kernel_rfl, fun st => by kernel_rfl, fun st => by kernel_rfl, by kernel_rfl, rfl⟩
theorem r9_27 : OpC 164 r9O 27 [(79, FB), (82, .opq 50)] 10 [.opq 50] 83 := ⟨fun st => by kernel_rfl, fun st => by kernel_rfl, fun st => by kernel_rfl, by kernel_rfl, rfl⟩
theorem r9_28 : OpC 164 r9O 28 [(79, FB), (81, .opq 50), (83, .opq 51)] 8 [.opq 50, .opq 51] 84 := ⟨fun st => by kernel_rfl, fun st => by kernel_rfl, fun st => by kernel_rfl, by kernel_rfl, rfl⟩
theorem r9_10 {t : Nat} (h : isErr t) : OpC 164 r9O 10 [(64, TB), (65, .iface t (.opq 50))] (errF t) [.opq 50] 66 := by
  rcases h with rfl | rfl | rfl | rfl | rfl | rfl | rfl <;> exact ⟨fun st => by kernel_rfl, fun st => by kernel_rfl, fun st => by kernel_rfl, by kernel_rfl, rfl⟩
end Go.Proofs.YtojifefdokekpaaDoor

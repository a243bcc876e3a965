/-
  A crew's context over the seat's program, the laid variables among what is known; from a crew's run to one good run. Conditions: none.
-/
import Derived.Test.YtbnmlanhjpdalaaGreatDoorSxMLaid
import Derived.Test.YtbnmlanhjpdalaaGreatDoorSxRensB
set_option maxRecDepth 100000
set_option linter.unusedVariables false
namespace Go.Proofs.YtbnmlanhjpdalaaGreatDoor
open Go.Proofs.YtbnmlanhjpdalaaGreatDoor.SX Go.Conc

def offs : List (FuncId × Bool) := [(84, true), (85, false)]
noncomputable def memM : List (AA × AV) := (⟨.glob 0, .lit 0⟩, .iface 207 (.agg [.ptr (some ⟨.glob 4, .lit 31⟩)])) :: (List.range 64).map fun k => (⟨.glob 2, .lit (.ofNat k)⟩, .int .u8 (.lit (dbTab.getD k 0)))
noncomputable def OM (sm : List FuncId) (bs : List (BE × Bool)) (is : List (IE × IE)) : Orc := { bs := bs, is := is, fns := fns, ext := ext, mem := memM, sums := sm, offs := offs }
def h0 : AH := ⟨[], 100, 5192296858534827628530496329220096⟩
noncomputable abbrev EX (sm : List FuncId) (bs : List (BE × Bool)) (is : List (IE × IE)) : Ext := ext? Tryz.prog (OM sm bs is) tabC

theorem tabC_quiet : ∀ p ∈ tabC, p.2 ≠ .quiet := by
  intro p hp
  unfold tabC at hp
  simp only [List.mem_cons, List.not_mem_nil, or_false] at hp
  rcases hp with rfl | rfl | rfl | rfl | rfl | rfl | rfl | rfl | rfl | rfl | rfl | rfl | rfl | rfl | rfl <;> intro e <;> cases e

theorem offs_facts : ∀ p ∈ offs, ExtFact Tryz.prog p.1 (fun _ => do mark (match p.2 with | true => .disable | false => .enable); pure Extern.Race.none_) := by
  intro p hp
  simp only [offs, List.mem_cons, List.not_mem_nil, or_false] at hp
  rcases hp with rfl | rfl
  · exact tab84
  · exact tab85

theorem sound (sm : List FuncId) (bs : List (BE × Bool)) (is : List (IE × IE)) {sum : Sums} (hz : ∀ own Ev lock still main, (⟨Tryz.prog, OM sm bs is, own, Ev, lock, still⟩ : Ctx).Good → SumOk ⟨Tryz.prog, OM sm bs is, own, Ev, lock, still⟩ main sum) : CrewSound Tryz.prog (OM sm bs is) (EX sm bs is) sum :=
  ⟨fun _ _ _ _ => ⟨fns_ok, ext_facts, mixed⟩, fun _ _ _ _ G => ext_ok G (.inr tabC_quiet) tabC_facts, offs_facts, hz⟩

theorem kept {W W' : World} {may : MemPlace → Prop} (h : Keeps (fun n => W.heap.size ≤ n) W W') : W.keptBut W' may := by
  refine ⟨h.os, h.output, fun i hi => ?_⟩
  have e := h.heap i (Nat.not_le.2 hi)
  rw [e]
  split
  · rename_i e1 e2
    cases e1.symm.trans e2
    exact ⟨rfl, rfl, rfl, fun _ _ => rfl⟩
  · rename_i e1 e2
    cases e1.symm.trans e2
    exact .inr ⟨rfl, rfl⟩
  · rfl

noncomputable def env (l : List Int) (vs : List Value) : Env := { i := fun n => l.getD (n - 1) 0, p := fun _ => false, v := fun n => vs.getD (n - 1) undef, b := fun _ => 0 }

theorem memM_at {W : World} (hL : Go.laidMetH Tryz.prog memoLaid W) (ρ : Env) : ∀ p ∈ memM, W.cell? (p.1.ev ρ) = some (p.2.ev ρ) := by
  intro p hp
  rcases List.mem_cons.1 hp with rfl | hp
  · have := handle_of_laid hL
    simpa [AA.ev, BR.ev, IE.ev, AV.ev, AV.evs] using this
  · obtain ⟨k, hk, rfl⟩ := List.mem_map.1 hp
    have hk' : k < 64 := List.mem_range.1 hk
    have := tab_of_laid hL k
    have hl : dbTab.length = 64 := rfl
    have e1 : AA.ev ρ (⟨.glob 2, .lit (.ofNat k)⟩ : AA) = ⟨2, k, none⟩ := rfl
    show W.cell? (AA.ev ρ ⟨.glob 2, .lit (.ofNat k)⟩) = _
    rw [e1, this, List.getElem?_eq_getElem (by rw [hl]; exact hk')]
    simp [AV.ev, IE.ev, List.getD_eq_getElem?_getD, List.getElem?_eq_getElem (show k < dbTab.length by rw [hl]; exact hk')]

theorem lt_of_cell {W : World} {a : Addr} {v : Value} (hc : W.cell? a = some v) : a.block < W.heap.size := by
  rcases Nat.lt_or_ge a.block W.heap.size with h' | h'
  · exact h'
  · simp [World.cell?, Array.getElem?_eq_none h'] at hc

theorem relM {sm : List FuncId} {bs : List (BE × Bool)} {is : List (IE × IE)} {W : World} (hL : Go.laidMetH Tryz.prog memoLaid W) (ρ : Env) (hbs : ∀ p ∈ bs, p.1.ev ρ = p.2) (his : ∀ p ∈ is, p.1.ev ρ = p.2.ev ρ) : Rel (CK Tryz.prog (OM sm bs is) W.heap.size [] ρ) ρ h0 W := by
  refine ⟨(fun i b hb => by cases hb), (fun i b hb => by cases hb), (fun i j b c hb => by cases hb), hbs, his, (fun p hp => ?_), (fun n hn => ⟨hn, fun ⟨s, hs, _⟩ => by cases hs⟩), (fun i b hb => by cases hb), fun b n h => ?_⟩
  · have := memM_at hL ρ p hp
    exact ⟨fun h => absurd h.1 (Nat.not_le.2 (lt_of_cell this)), this, fun s => ev_read _ _ s⟩
  · rcases h with ⟨s, hs, _⟩ | ⟨_, s, hs, _⟩ <;> cases hs

abbrev Low (n : Nat) : Prop := n < 100
theorem memM_in {U : Nat → Prop} : ∀ p ∈ memM, p.1.In U ∧ p.2.In U := by
  intro p hp
  rcases List.mem_cons.1 hp with rfl | hp
  · exact ⟨⟨trivial, trivial⟩, ⟨⟨trivial, trivial⟩, trivial⟩⟩
  · obtain ⟨k, hk, rfl⟩ := List.mem_map.1 hp
    exact ⟨⟨trivial, trivial⟩, trivial⟩
theorem idsM {sm : List FuncId} {bs : List (BE × Bool)} {is : List (IE × IE)} (W : World) (ρ : Env) (hbs : ∀ p ∈ bs, p.1.In Low) (his : ∀ p ∈ is, p.1.In Low ∧ p.2.In Low) : Ids (CK Tryz.prog (OM sm bs is) W.heap.size [] ρ) Low h0 :=
  ⟨(fun i b hb => by cases hb), (fun i hi => by cases hi), List.nodup_nil, (fun n hn _ h => by have : 100 ≤ n := hn; have h' : n < 100 := h; omega), hbs, his, memM_in⟩

/-- Where a crew has come to 'true', from that start. -/
abbrev Ended (O : Orc) (ext : Ext) (sum : Sums) (W : World) (N : Nat) (m : Machine) (T : Trace) : Prop :=
  ∃ m' T' st' f, runNT Tryz.prog N m T = (.next m', T') ∧ CInv Tryz.prog O W.heap.size W [] st' m' T' ∧ crew1? Tryz.prog O ext sum f st' = .ok (.inr (.bool (.lit true)))

def GoodFrom (f : FuncId) (args : Array Value) (W : World) : Prop :=
  ∃ M last o w' t', runNT Tryz.prog (M + 1) (solo (G (Frame.enter Tryz.prog f args .normal) []) W) #[] = (.ended o w', t') ∧ runN Tryz.prog M (solo (G (Frame.enter Tryz.prog f args .normal) []) W) = .next last ∧
      step Tryz.prog last = .ended o w' ∧ Conc.Good Tryz.prog (fun v W' => v = .bool true ∧ Keeps (fun n => W.heap.size ≤ n) W W') last o w' t'

/-- A crew that comes to 'true': one good run. -/
theorem good_run {sm sm' : List FuncId} {bs bs' : List (BE × Bool)} {is is' : List (IE × IE)} {sum' : Sums} {f : FuncId} {args : List AV} {fr : AFrame} (X : CrewSound Tryz.prog (OM sm' bs' is') (EX sm' bs' is') sum') (hen : enterA Tryz.prog f args .normal = .ok fr) (W : World) (hL : Go.laidMetH Tryz.prog memoLaid W) (ρ : Env)
    (ha : AV.Ins Low args) (b1 : ∀ p ∈ bs, p.1.In Low) (i1 : ∀ p ∈ is, p.1.In Low ∧ p.2.In Low) (b2 : ∀ p ∈ bs, p.1.ev ρ = p.2) (i2 : ∀ p ∈ is, p.1.ev ρ = p.2.ev ρ)
    (runs : ∀ {m : Machine} {T : Trace}, CInv Tryz.prog (OM sm bs is) W.heap.size W [] ⟨0, ⟨fr, [], h0⟩, [], 1, 0⟩ m T → ∃ N, Ended (OM sm' bs' is') (EX sm' bs' is') sum' W N m T) : GoodFrom f (AV.evs ρ args).toArray W :=
  crew_run_to X hen (idsM W ρ b1 i1) ha (relM hL ρ b2 i2) (fun p hp => lt_of_cell (memM_at hL ρ p hp)) fun I => by
    obtain ⟨N, m', T', st', f, h1, h2, h3⟩ := runs I
    exact ⟨N, m', T', st', f, h1, h2, h3⟩
end Go.Proofs.YtbnmlanhjpdalaaGreatDoor

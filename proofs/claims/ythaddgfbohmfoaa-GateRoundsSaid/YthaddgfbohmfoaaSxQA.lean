/-
  The program's facts: which functions have a body, which entries lack one. Conditions: none.
-/
import Derived.Test.YthaddgfbohmfoaaRows
import Derived.ChangeSame
import Derived.ChangeVars
import Derived.JoinedOf
import Derived.RowKit
import Derived.RowKitTokens
import Derived.LaidLaws
import Derived.LaidHandle
import Derived.Stop.Joined
import Derived.Test.YthaddgfbohmfoaaSxRuns
import Derived.Test.YthaddgfbohmfoaaSxParts
import Derived.Test.YthaddgfbohmfoaaSxSems
import Derived.IntWalk
set_option maxRecDepth 100000
namespace Go.Proofs.Ythaddgfbohmfoaa
open Go.ChangeShapes Go.WideShapes Go.RowKit Go.Proofs.Ythaddgfbohmfoaa.SX

def fns : List Nat := [2, 3, 4, 5, 6, 7, 8, 9, 10, 11, 12, 13, 14, 15, 16, 17, 18, 19, 20, 21, 22, 23, 24, 25, 26, 27, 28, 29, 30, 31, 32, 33, 34, 35, 36, 37, 38, 39, 41, 42, 43, 44, 45, 46, 47, 48, 49, 50, 51, 52, 53, 54, 55, 56, 57, 61, 62, 63, 64, 65, 66, 67, 68, 69, 70, 71, 72, 73, 74, 75, 76, 77, 78, 79, 80, 81, 82, 83, 84, 85, 86]
def ext : List (FuncId × (Array Value → Sem Value)) := []
def tab : List (FuncId × XE) := [(40, .ld .i64), (58, .st), (59, .cas .i64), (60, .add .i64)]
theorem tab40 : ExtFact Try.prog 40 (Extern.Atomic.loadT (.int .i64)) := ⟨⟨Try.f40, Try.func40, by kernel_rfl, by kernel_rfl, by kernel_rfl, by kernel_rfl⟩⟩
theorem tab58 : ExtFact Try.prog 58 (Extern.Atomic.storeT) := ⟨⟨Try.f58, Try.func58, by kernel_rfl, by kernel_rfl, by kernel_rfl, by kernel_rfl⟩⟩
theorem tab59 : ExtFact Try.prog 59 (Extern.Atomic.casT (.int .i64)) := ⟨⟨Try.f59, Try.func59, by kernel_rfl, by kernel_rfl, by kernel_rfl, by kernel_rfl⟩⟩
theorem tab60 : ExtFact Try.prog 60 (Extern.Atomic.update (Op.intArith .add) .i64 true) := ⟨⟨Try.f60, Try.func60, by kernel_rfl, by kernel_rfl, by kernel_rfl, by kernel_rfl⟩⟩
theorem ext_facts : ∀ p ∈ ext, ExtFact Try.prog p.1 p.2 := by
  intro p hp
  cases hp
/-- The entries that leave one hearing. -/
def tabC : List (FuncId × XE) := [(40, .ld .i64), (58, .st), (59, .cas .i64), (60, .add .i64)]
theorem tabC_facts : TabFacts Try.prog tabC := by
  intro p hp
  simp only [tabC, List.mem_cons, List.not_mem_nil, or_false] at hp
  rcases hp with rfl | rfl | rfl | rfl
  · exact ⟨_, tab40, rfl⟩
  · exact ⟨_, tab58, rfl⟩
  · exact ⟨_, tab59, rfl⟩
  · exact ⟨_, tab60, rfl⟩
theorem tab_facts : TabFacts Try.prog tab := by
  intro p hp
  simp only [tab, List.mem_cons, List.not_mem_nil, or_false] at hp
  rcases hp with rfl | rfl | rfl | rfl
  · exact ⟨_, tab40, rfl⟩
  · exact ⟨_, tab58, rfl⟩
  · exact ⟨_, tab59, rfl⟩
  · exact ⟨_, tab60, rfl⟩

theorem fns_ok : fns.all (fnOk Try.prog) = true := by kernel_rfl
theorem Try.own : ownKnob Try.prog.godebug = none := by kernel_rfl
theorem mixed : Try.prog.follows .mixedOrders = true := by kernel_rfl
end Go.Proofs.Ythaddgfbohmfoaa
/-
  The seat's context for pieces of runs. Conditions: none.
-/
set_option maxRecDepth 100000
set_option linter.unusedSimpArgs false
set_option linter.unusedVariables false
namespace Go.Proofs.Ythaddgfbohmfoaa
open Go.Proofs.Ythaddgfbohmfoaa.SX Go.Conc

noncomputable def OO (bs : List (BE × Bool)) (is : List (IE × IE)) (mem : List (AA × AV)) : Orc := { bs := bs, is := is, mem := mem, fns := fns, ext := ext }
noncomputable abbrev XX (bs : List (BE × Bool)) (is : List (IE × IE)) (mem : List (AA × AV)) : Ext := ext? Try.prog (OO bs is mem) tabC
theorem tabC_quiet : ∀ p ∈ tabC, p.2 ≠ .quiet := by
  intro p hp
  simp only [tabC, List.mem_cons, List.not_mem_nil, or_false] at hp
  rcases hp with rfl | rfl | rfl | rfl | rfl | rfl | rfl | rfl <;> intro e <;> cases e
def v (n : Nat) : IE := .var n
def slc (b : Nat) (l c : IE) : AV := .slice (some ⟨.dyn b, .lit 0⟩) l c
def ptr0 (b : Nat) : AV := .ptr (some ⟨.dyn b, .lit 0⟩)
def i64 (e : IE) : AV := .int .i64 e
def TB : AV := .bool (.lit true)

/-- What a caller brings. -/
structure Outer (K : Ctx) : Prop where
  prog : K.P = Try.prog
  good : K.Good
  rd : ∀ a s, K.Ev ⟨.cell a, false, s⟩
/-- Values of numbers below 100 stand. -/
theorem evsL {ρ ρ' : Env} (A : Agree (Below 100) ρ ρ') {l : List AV} (h : AV.lows 100 l = true) : AV.evs ρ' l = AV.evs ρ l := AV.evs_agree A l (AV.lows_in l h)
structure Room (K : Ctx) (w : World) : Prop where
  new : ∀ n, w.heap.size ≤ n → K.own n
  low : ∀ b n, K.still b n → b < w.heap.size
theorem Room.keep {K : Ctx} {w w' : World} (R : Room K w) (h : w.heap.size ≤ w'.heap.size) : Room K w' := ⟨fun n hn => R.new n (Nat.le_trans h hn), fun b n hs => Nat.lt_of_lt_of_le (R.low b n hs) h⟩

theorem wrapN {x : Int} (h : -9223372036854775808 ≤ x ∧ x ≤ 9223372036854775807) : IntKind.wrap .i64 x = x := IntWalk.i64_in _ h
/-- A piece that owns what is new alone. -/
theorem pieceN {K : Ctx} {main : Bool} (U : Outer K) {w : World} (R : Room K w) {bs : List (BE × Bool)} {is : List (IE × IE)} {mem : List (AA × AV)} {n nb lim : Nat} {ks : List Nat} {cur : AFrame} {callers : List AFrame} {live : List Nat} {V : Seen}
    (hv : see (chunkTo? Try.prog (OO bs is mem) (XX bs is mem) noSums 4000 n ks ⟨cur, callers, ⟨[], nb, lim⟩⟩) live = some V) (hl : cfgLow nb ⟨cur, callers, ⟨[], nb, lim⟩⟩ = true) (hO : (OO bs is mem).low nb = true) {ρ : Env} {fr : Frame} {frs cs : List Frame} (hf : FrRel Try.prog ρ cur fr) (hfs : FrRels Try.prog ρ callers frs)
    (hb : ∀ p ∈ bs, p.1.ev ρ = p.2) (hi : ∀ p ∈ is, p.1.ev ρ = p.2.ev ρ) (hm : ∀ p ∈ mem, w.cell? (p.1.ev ρ) = some (p.2.ev ρ)) :
    Walk Try.prog main (DK K) (fun g' w' => ∃ ρ' c' fr' frs', Came1 K (Below nb) ρ (fun n => w.heap.size ≤ n) (fun _ _ => False) (OO bs is mem) cs live V w g' w' ρ' c' fr' frs') 0 (G fr (frs ++ cs)) w := by
  obtain ⟨P, O, own, Ev, lock, still⟩ := K
  obtain ⟨hP, Gd, hrd⟩ := U
  dsimp only at hP
  subst hP
  exact piece_new (K := ⟨Try.prog, O, own, Ev, lock, still⟩) (O := OO bs is mem) Gd hrd R.new R.low ⟨fns_ok, ext_facts, mixed⟩ (fun G => ext_ok G (.inr tabC_quiet) tabC_facts) (fun _ => noSums_ok) hv hl hO hf hfs hb hi hm

/-- A piece that owns these blocks and what is new. -/
theorem pieceB {K : Ctx} {main : Bool} (U : Outer K) {w : World} (R : Room K w) {own : Nat → Prop} (still : Nat → Nat → Prop) (hown : ∀ n, own n → K.own n) (hnew : ∀ n, w.heap.size ≤ n → own n) {bs : List (BE × Bool)} {is : List (IE × IE)} {mem : List (AA × AV)} {n nb lim : Nat} {ks : List Nat} {cur : AFrame} {callers : List AFrame} {hp : List (Nat × ABlk)} {live : List Nat} {V : Seen}
    (hv : see (chunkTo? Try.prog (OO bs is mem) (XX bs is mem) noSums 4000 n ks ⟨cur, callers, ⟨hp, nb, lim⟩⟩) live = some V) (hl : cfgLow nb ⟨cur, callers, ⟨hp, nb, lim⟩⟩ = true) (hO : (OO bs is mem).low nb = true) {ρ : Env} {fr : Frame} {frs cs : List Frame} (hf : FrRel Try.prog ρ cur fr) (hfs : FrRels Try.prog ρ callers frs)
    (hb : ∀ p ∈ bs, p.1.ev ρ = p.2) (hi : ∀ p ∈ is, p.1.ev ρ = p.2.ev ρ) (hm : ∀ p ∈ mem, ¬ own (p.1.ev ρ).block ∧ w.cell? (p.1.ev ρ) = some (p.2.ev ρ))
    (h1 : ∀ p ∈ hp, ∃ o, w.heap[ρ.b p.1]? = some o ∧ p.2.is Try.prog ρ o) (h2 : ∀ p ∈ hp, own (ρ.b p.1)) (h3 : (hp.map fun p => ρ.b p.1).Nodup) (h4 : ∀ p ∈ hp, ∀ n, (K.still (ρ.b p.1) n ∨ still (ρ.b p.1) n) → p.2.lentAt Try.prog ρ n) (h5 : ∀ b n, still b n → b < w.heap.size) :
    Walk Try.prog main (DK K) (fun g' w' => ∃ ρ' c' fr' frs', Came1 K (Below nb) ρ own still (OO bs is mem) cs live V w g' w' ρ' c' fr' frs') 0 (G fr (frs ++ cs)) w := by
  obtain ⟨P, O, own', Ev, lock, still'⟩ := K
  obtain ⟨hP, Gd, hrd⟩ := U
  dsimp only at hP
  subst hP
  have Gd2 := sub_good (K := ⟨Try.prog, O, own', Ev, lock, still'⟩) (O := OO bs is mem) (own := own) (still := still) Gd hown
  exact piece (K := ⟨Try.prog, O, own', Ev, lock, still'⟩) (own := own) (still := still) (O := OO bs is mem) Gd hown ⟨fns_ok, ext_facts, mixed⟩ (ext_ok Gd2 (.inr tabC_quiet) tabC_facts) noSums_ok hv hl rfl hO hf hfs
    (rel_blocks h1 h2 h3 h4 ⟨hb, hi, fun p hp => ⟨(hm p hp).1, (hm p hp).2, fun s => ⟨hrd _ s, fun b n s e => by cases e⟩⟩⟩ hnew fun b n h => h.elim (R.low b n) (h5 b n))
theorem stillless {K : Ctx} {w : World} (R : Room K w) {b n : Nat} (h : w.heap.size ≤ b) : ¬ K.still b n := fun x => Nat.not_lt.2 h (R.low b n x)

/-- The frame at the end of such a piece, told anew; it alone above what lies below. -/
theorem toldN {K : Ctx} (U : Outer K) {V : Nat → Prop} {ρ ρ' : Env} {own : Nat → Prop} {still : Nat → Nat → Prop} {O : Orc} {cs : List Frame} {w : World} {g' : Goroutine} {w' : World} {c' : ACfg} {fr' : Frame} {frs' : List Frame} (lv : List (Nat × AV)) {fn : FuncId} {nt : Nat} {todo : List Item} {hp : List (Nat × ABlk)} {vals : List AV} (C : Came1 K V ρ own still O cs (lv.map (·.1)) ⟨fn, nt, todo, [], .run, .normal, [], hp, vals⟩ w g' w' ρ' c' fr' frs') :
    ∃ st, g' = G fr' cs ∧ ∀ ρ2 : Env, AV.evs ρ2 (lv.map (·.2)) = AV.evs ρ' vals → FrRel Try.prog ρ2 ⟨fn, nt, tmpsOf nt st lv, todo, [], .run, .normal⟩ fr' := by
  obtain ⟨st, h⟩ := C.told (.inl rfl)
  rw [U.prog] at h
  exact ⟨st, C.alone.1, h⟩

end Go.Proofs.Ythaddgfbohmfoaa
/-
  gate.run.begin, its goroutine up to where it first stands: pieces, as closed data. Conditions: none.
-/
set_option maxRecDepth 100000
set_option linter.unusedVariables false
set_option linter.unusedSimpArgs false
namespace Go.Proofs.Ythaddgfbohmfoaa
open Go.Proofs.Ythaddgfbohmfoaa.SX Go.Conc

noncomputable def chb (b : Nat) : AV := .chan (some (.dyn b))
noncomputable def nilA : AV := .slice none (.lit 0) (.lit 0)
noncomputable def fvA : AV := .func (.func 10) [] [ptr0 11, ptr0 12, ptr0 13]
noncomputable def ff : AV := .bool (.lit false)
noncomputable def UN : AV := .agg []
noncomputable def i8z : AV := .int .i8 (.lit 0)
noncomputable def OLm (l : List (AA × AV)) : Orc := OL fns ext l
noncomputable def look4 (a b c d : List Nat) (f : FuncId) : List Nat := Bool.rec (Bool.rec (Bool.rec (Bool.rec [] d (Nat.beq f 76)) c (Nat.beq f 10)) b (Nat.beq f 11)) a (Nat.beq f 37)
def lims : Nat := 300000
noncomputable def runQ (bs : List (BE × Bool)) (mem : List (AA × AV)) (n : Nat) (ks : List Nat) (c : ACfg) : M ACfg := chunkTo? Try.prog (OO bs [] mem) (XX bs [] mem) noSums 4000 n ks c
noncomputable def cfg (cur : AFrame) (callers : List AFrame) (hp : List (Nat × ABlk)) : ACfg := ⟨cur, callers, ⟨hp, 100, 300000⟩⟩
noncomputable def finF (fr : AFrame) (v : AV) : AFrame := match finishA fr v with
  | .ok f => f
  | .error _ => fr
noncomputable def okA (m : M AFrame) : AFrame := match m with
  | .ok f => f
  | .error _ => ⟨0, 0, .leaf, [], [], .run, .normal⟩
noncomputable def okC (m : M ACfg) : AFrame := match m with
  | .ok c => c.cur
  | .error _ => ⟨0, 0, .leaf, [], [], .run, .normal⟩

/-! ### until: the loop that begins the bodies -/
noncomputable def unB : Code := pc (bodyOf Try.f37) [1,0,1,0,0]
noncomputable def unR : Code := pc (bodyOf Try.f37) [1,1]
noncomputable def sched : AV := .func (.func 38) [] [ptr0 30, ptr0 31]
noncomputable def unL (i : IE) : List (Nat × AV) := [(17, i64 i), (0, ptr0 10), (1, i64 (.lit 4000)), (3, sched), (15, slc 28 (v 1) (v 29)), (16, i64 (.tn (v 1)))]
noncomputable def unHd (st : Nat → Value) (i : IE) : AFrame := ⟨37, 80, tmpsOf 80 st (unL i), [.code unB, .inLoop unB, .inBlock 0, .code unR], [], .run, .normal⟩
noncomputable def unTd : List Item := [.inRegion (opsOf (pc (bodyOf Try.f37) [1,0,1,0,0,1,1,0,0,1])) [2], .inBlock 1, .code (pc (bodyOf Try.f37) [1,0,1,0,0,1,1,1]), .inLoop unB, .inBlock 0, .code unR]
noncomputable def unIn (st : Nat → Value) : AFrame := ⟨37, 80, tmpsOf 80 st (unL (v 2)), unTd, [], .run, .normal⟩

/-! ### begin: up to the go statement -/
noncomputable def runC (z : Bool) : List AV := match z with
  | true => [nilA, .map (some (.dyn 15)), nilA, nilA, nilA, nilA, ff]
  | false => [slc 20 (v 2) (v 22), .map (some (.dyn 15)), nilA, nilA, nilA, slc 21 (v 2) (v 23), ff]
noncomputable def runC' (z : Bool) : List AV := match z with
  | true => [slc 151 (.lit 1) (v 151), .map (some (.dyn 15)), nilA, nilA, nilA, slc 153 (.lit 1) (v 153), ff]
  | false => [slc 151 (.plus (.tn (v 2)) (.lit 1)) (v 151), .map (some (.dyn 15)), nilA, nilA, nilA, slc 153 (.plus (.tn (v 2)) (.lit 1)) (v 153), ff]
noncomputable def thrC (i : IE) (t wk sd : Nat) (w : AV) (a : List AV) (e : AV) : List AV := [ptr0 10, i64 i, chb wk, chb sd, w] ++ a ++ [e]
noncomputable def at0 : List AV := [i64 (.lit 0), i8z, i64 (.lit 0), i64 (.lit 0), i64 (.lit 0), i64 (.lit 0), i64 (.lit 0), ff]
noncomputable def hpB (z : Bool) : List (Nat × ABlk) := match z with
  | true => [(10, .cells (runC true) 87)]
  | false => [(21, .pre false 41 (v 2) [] [] [] 4 (v 23)), (20, .pre false 40 (v 2) [] [] [] 30 (v 22)), (10, .cells (runC false) 87)]
noncomputable def arrB (z : Bool) (s : Nat) (x : AV) (e : TypeId) (n : Nat) : ABlk := match z with
  | true => .row [x] e (v n)
  | false => .pre false s (v 2) [] [] [x] e (v n)
noncomputable def numB (z : Bool) : IE := match z with
  | true => .lit 0
  | false => .tn (v 2)
noncomputable def hpB' (z : Bool) : List (Nat × ABlk) := [(153, arrB z 41 ff 4 153), (151, arrB z 40 (ptr0 138) 30 151), (142, .cells [ptr0 138] 30), (138, .cells (thrC (numB z) 138 126 130 (.ptr none) at0 ff) 78), (130, .chan), (126, .chan), (101, .cells [fvA] 35), (100, .cells [ptr0 10] 75), (10, .cells (runC' z) 87)]
noncomputable def ksB : List Nat := [153, 151, 142, 138, 130, 126, 101, 100, 10]
noncomputable def bsB (z : Bool) : List (BE × Bool) := [(.cmp .lss (v 2) (.tn (v 1)), true), (.cmp .leq (.lit 0) (v 2), true)] ++ match z with
  | true => []
  | false => [(.cmp .leq (.plus (.tn (v 2)) (.lit 1)) (.lit 1048576), true)]
noncomputable def memB : List (AA × AV) := [(⟨.dyn 28, .tn (v 2)⟩, fvA)]
noncomputable def goTd : List Item := [.inRegion (opsOf (pc (bodyOf Try.f61) [1,1,1,1,0])) [1], .code (pc (bodyOf Try.f61) [1,1,1,1,1])]
noncomputable def goF : AV := .func (.func 76) [] [ptr0 16, ptr0 17, ptr0 18]
noncomputable def bgGo (st : Nat → Value) : AFrame := ⟨61, 39, tmpsOf 39 st [(5, ptr0 17), (35, goF)], goTd, [], .run, .normal⟩
noncomputable def bgGv (st : Nat → Value) : AFrame := finF (bgGo st) undefA
noncomputable def lvB : FuncId → List Nat := look4 ((unL (v 2)).map (·.1)) [] [] []
theorem b1 (z : Bool) (st : Nat → Value) : seeF (runQ (bsB z) memB 34 ksB (cfg (unHd st (v 2)) [] (hpB z))) [5, 35] lvB = some (⟨61, 39, goTd, [], .run, .normal, [], hpB' z, [ptr0 142, .func (.func 76) [] [ptr0 100, ptr0 142, ptr0 101]]⟩, [⟨37, 80, unTd, [], .run, .normal, [], [], (unL (v 2)).map (·.2)⟩]) := by cases z <;> kernel_rfl
theorem b1Low (z : Bool) (st : Nat → Value) : cfgLow 100 (cfg (unHd st (v 2)) [] (hpB z)) = true := by cases z <;> kernel_rfl
theorem b1O (z : Bool) : (OO (bsB z) [] memB).low 100 = true := by cases z <;> kernel_rfl

/-! ### the go statement -/
theorem goAt (st : Nat → Value) : goAt? (bgGo st) = some (76, [ptr0 16, ptr0 17, ptr0 18], [], bgGv st) := by kernel_rfl
theorem goLow (st s37 : Nat → Value) : cfgLow 100 (cfg (bgGo st) [unIn s37] []) = true := by kernel_rfl
noncomputable def chIn : AFrame := okA (enterA Try.prog 76 [ptr0 16, ptr0 17, ptr0 18] .deferred)
noncomputable def stWk : List (AA × AV) := [(⟨.dyn 17, .lit 0⟩, ptr0 14), (⟨.dyn 14, .lit 2⟩, chb 26)]
noncomputable def chRv : AFrame := okC (lrun? Try.prog (OLm stWk) noExt 11 ⟨chIn, [], e0⟩)
theorem chEnter : enterA Try.prog 76 ([] ++ [ptr0 16, ptr0 17, ptr0 18]) .deferred = .ok chIn := by kernel_rfl
theorem chWay : lrun? Try.prog (OLm stWk) noExt 11 ⟨chIn, [], e0⟩ = .ok ⟨chRv, [], e0⟩ := by kernel_rfl
theorem chRecv : recvAt? Try.prog ⟨chRv, [], e0⟩ = some (.dyn 26, .agg #[], false) := by kernel_rfl
noncomputable def chBk : AFrame := finF chRv UN
theorem chBack : finishA chRv (recvdA false UN) = .ok chBk := by kernel_rfl

/-! ### main goes on to the send -/
noncomputable def memS : List (AA × AV) := [(⟨.dyn 17, .lit 0⟩, ptr0 14), (⟨.dyn 14, .lit 2⟩, chb 26)]
noncomputable def gsTd : List Item := [.inRegion (opsOf (pc (bodyOf Try.f63) [0])) [5], .code (pc (bodyOf Try.f63) [1])]
noncomputable def gsSd (st : Nat → Value) : AFrame := ⟨63, 12, tmpsOf 12 st [(0, ptr0 14), (5, chb 26), (6, UN)], gsTd, [], .run, .normal⟩
noncomputable def gsGv (st : Nat → Value) : AFrame := finF (gsSd st) undefA
noncomputable def bgTd : List Item := [.inRegion (opsOf (pc (bodyOf Try.f61) [1,1,1,1,1,0])) [1], .code (pc (bodyOf Try.f61) [1,1,1,1,1,1])]
noncomputable def bgW (st : Nat → Value) : AFrame := ⟨61, 39, tmpsOf 39 st [(5, ptr0 17)], bgTd, [], .run, .normal⟩
noncomputable def lvS (f : FuncId) : List Nat := Bool.rec (Bool.rec [] [5] (Nat.beq f 61)) ((unL (v 2)).map (·.1)) (Nat.beq f 37)
theorem b2 (st s37 : Nat → Value) : seeF (runQ [] memS 12 [] (cfg (bgGv st) [unIn s37] [])) [0, 5, 6] lvS = some (⟨63, 12, gsTd, [], .run, .normal, [], [], [ptr0 14, chb 26, UN]⟩, [⟨61, 39, bgTd, [], .run, .normal, [], [], [ptr0 17]⟩, ⟨37, 80, unTd, [], .run, .normal, [], [], (unL (v 2)).map (·.2)⟩]) := by kernel_rfl
theorem b2Low (st s37 : Nat → Value) : cfgLow 100 (cfg (bgGv st) [unIn s37] []) = true := by kernel_rfl
theorem b2O : (OO [] [] memS).low 100 = true := by kernel_rfl

/-! ### the send; main's way to where it waits; its way back -/
theorem gsSend (st : Nat → Value) : sendAt? (gsSd st) = some (.dyn 26, UN, gsGv st) := by kernel_rfl
noncomputable def stSd : List (AA × AV) := [(⟨.dyn 14, .lit 3⟩, chb 27)]
noncomputable def gsRv (st : Nat → Value) : AFrame := okC (lrun? Try.prog (OLm stSd) noExt 6 ⟨gsGv st, [], e0⟩)
theorem gsWay (st : Nat → Value) (cl : List AFrame) : lrun? Try.prog (OLm stSd) noExt 6 ⟨gsGv st, cl, e0⟩ = .ok ⟨gsRv st, cl, e0⟩ := by kernel_rfl
theorem gsRecv (st : Nat → Value) (cl : List AFrame) : recvAt? Try.prog ⟨gsRv st, cl, e0⟩ = some (.dyn 27, .agg #[], false) := by kernel_rfl
noncomputable def gsBk (st : Nat → Value) : AFrame := finF (gsRv st) UN
theorem gsBack (st : Nat → Value) : finishA (gsRv st) (recvdA false UN) = .ok (gsBk st) := by kernel_rfl
noncomputable def memR : List (AA × AV) := [(⟨.dyn 17, .lit 0⟩, ptr0 14)]
theorem b3 (st s61 s37 : Nat → Value) : seeF (runQ [] memR 18 [] (cfg (gsBk st) [bgW s61, unIn s37] [])) ((unL (v 2)).map (·.1)) lvS = some (⟨37, 80, [.code unB, .inLoop unB, .inBlock 0, .code unR], [], .run, .normal, [], [], (unL (.op .add .i64 (v 2) (.lit 1))).map (·.2)⟩, []) := by kernel_rfl
theorem b3Low (st s61 s37 : Nat → Value) : cfgLow 100 (cfg (gsBk st) [bgW s61, unIn s37] []) = true := by kernel_rfl
theorem b3O : (OO [] [] memR).low 100 = true := by kernel_rfl
theorem gsLow (st s61 s37 : Nat → Value) : cfgLow 100 (cfg (gsSd st) [bgW s61, unIn s37] []) = true := by kernel_rfl

/-! ### the body's first way: up to where it stands, or to its end -/
noncomputable def hpT (w : AV) (a : List AV) (e : AV) : List (Nat × ABlk) := [(14, .lent (thrC (v 2) 14 26 27 w a e) 78 [3])]
noncomputable def atS : List AV := [i64 (v 2), .int .i8 (.lit 4), i64 (.lit (-1)), i64 (.lit 1), i64 (.lit 0), i64 (.lit 0), i64 (.lit 0), ff]
noncomputable def memC : List (AA × AV) := [(⟨.dyn 16, .lit 0⟩, ptr0 10), (⟨.dyn 17, .lit 0⟩, ptr0 14), (⟨.dyn 18, .lit 0⟩, fvA), (⟨.dyn 11, .lit 0⟩, .slice (some ⟨.dyn 9, v 8⟩) (v 1) (v 7)), (⟨.dyn 12, .lit 0⟩, i64 (v 2)), (⟨.dyn 9, .plus (.tn (v 8)) (.tn (v 2))⟩, .int .u8 (v 4)), (⟨.dyn 10, .lit 6⟩, ff)]
noncomputable def modE : IE := .op .rem .u8 (v 4) (.lit 32)
noncomputable def bsC (b : Bool) : List (BE × Bool) := [(.cmp .lss (v 2) (.tn (v 1)), true), (.cmp .leq (.lit 0) (v 2), true), (.cmp .lss (.lit 0) modE, b)]
noncomputable def stTd : List Item := [.inRegion (opsOf (pc (bodyOf Try.f33) [1,0,1,0,1,0])) [5], .code (pc (bodyOf Try.f33) [1,0,1,0,1,1]), .code (pc (bodyOf Try.f33) [1,1])]
noncomputable def spTd : List Item := [.inRegion (opsOf (pc (bodyOf Try.f11) [1,1,1,1,1,0])) [3], .code (pc (bodyOf Try.f11) [1,1,1,1,1,1])]
noncomputable def cbB : Code := pc (bodyOf Try.f10) [1,0,0]
noncomputable def cbTd : List Item := [.inRegion (opsOf (pc (bodyOf Try.f10) [1,0,0,1,0,0])) [1], .inBlock 1, .code (pc (bodyOf Try.f10) [1,0,0,1,1]), .inLoop cbB, .inBlock 0]
noncomputable def chTd : List Item := [.inRegion (opsOf (pc (bodyOf Try.f76) [1,1,1,0])) [2]]
noncomputable def dfr (a b : Nat) : List AD := [⟨.fn (.func 77) [ptr0 a, ptr0 b], []⟩]
noncomputable def lvC (f : FuncId) : List Nat := Bool.rec (Bool.rec [] [0, 1, 2, 3, 5] (Nat.beq f 10)) [0, 1, 2, 3, 4, 13] (Nat.beq f 11)
noncomputable def spV (ab : Nat) : List AV := [ptr0 14, ptr0 13, .int .i8 (.lit 4), i64 (.lit 1), i64 (.lit 0), ptr0 ab]
noncomputable def cbV (k : IE) : List AV := [ptr0 14, ptr0 11, ptr0 12, ptr0 13, .int .u8 k]
noncomputable def stC (k : IE) (ab : Nat) : List Seen := [⟨11, 127, spTd, [], .run, .normal, [], [], spV ab⟩, ⟨10, 17, cbTd, [], .run, .normal, [], [], cbV k⟩, ⟨76, 14, chTd, dfr 16 17, .run, .deferred, [], [], []⟩]
theorem c1A : seeF (runQ (bsC true) memC 151 [100, 14] (cfg chBk [] (hpT (.ptr none) at0 ff))) [0, 25, 26] lvC = some (⟨33, 41, stTd, [], .run, .normal, [], (100, .cells atS 61) :: hpT (ptr0 13) atS ff, [ptr0 14, chb 27, UN]⟩, stC (.lit 0) 100) := by kernel_rfl
theorem c1Low : cfgLow 100 (cfg chBk [] (hpT (.ptr none) at0 ff)) = true := by kernel_rfl
theorem c1O (b : Bool) : (OO (bsC b) [] memC).low 100 = true := by cases b <;> kernel_rfl
/-- Where it stands. -/
noncomputable def stSd33 (st : Nat → Value) : AFrame := ⟨33, 41, tmpsOf 41 st [(0, ptr0 14), (25, chb 27), (26, UN)], stTd, [], .run, .normal⟩
noncomputable def spW (st : Nat → Value) : AFrame := ⟨11, 127, tmpsOf 127 st [(0, ptr0 14), (1, ptr0 13), (2, .int .i8 (.lit 4)), (3, i64 (.lit 1)), (4, i64 (.lit 0)), (13, ptr0 25)], spTd, [], .run, .normal⟩
noncomputable def cbW (st : Nat → Value) : AFrame := ⟨10, 17, tmpsOf 17 st [(0, ptr0 14), (1, ptr0 11), (2, ptr0 12), (3, ptr0 13), (5, .int .u8 (v 3))], cbTd, [], .run, .normal⟩
noncomputable def chW (st : Nat → Value) : AFrame := ⟨76, 14, tmpsOf 14 st [], chTd, dfr 16 17, .run, .deferred⟩
noncomputable def stCl (s11 s10 s76 : Nat → Value) : List AFrame := [spW s11, cbW s10, chW s76]
noncomputable def stGv (st : Nat → Value) : AFrame := finF (stSd33 st) undefA
theorem stSend (st : Nat → Value) : sendAt? (stSd33 st) = some (.dyn 27, UN, stGv st) := by kernel_rfl
noncomputable def stWt : List (AA × AV) := [(⟨.dyn 14, .lit 2⟩, chb 26)]
noncomputable def stRv (st : Nat → Value) : AFrame := okC (lrun? Try.prog (OLm stWt) noExt 6 ⟨stGv st, [], e0⟩)
theorem stWay (st : Nat → Value) (cl : List AFrame) : lrun? Try.prog (OLm stWt) noExt 6 ⟨stGv st, cl, e0⟩ = .ok ⟨stRv st, cl, e0⟩ := by kernel_rfl
theorem stRecv (st : Nat → Value) (cl : List AFrame) : recvAt? Try.prog ⟨stRv st, cl, e0⟩ = some (.dyn 26, .agg #[], false) := by kernel_rfl
noncomputable def stBk (st : Nat → Value) : AFrame := finF (stRv st) UN
theorem stBack (st : Nat → Value) : finishA (stRv st) (recvdA false UN) = .ok (stBk st) := by kernel_rfl
theorem stLow (st s11 s10 s76 : Nat → Value) : cfgLow 100 (cfg (stSd33 st) (stCl s11 s10 s76) []) = true := by kernel_rfl

/-! ### its end -/
noncomputable def okCf (m : M ACfg) : ACfg := match m with
  | .ok c => c
  | .error _ => ⟨⟨0, 0, .leaf, [], [], .run, .normal⟩, [], e0⟩
noncomputable def c1E : ACfg := okCf (runQ (bsC false) memC 68 [14] (cfg chBk [] (hpT (.ptr none) at0 ff)))
theorem c1B : runQ (bsC false) memC 68 [14] (cfg chBk [] (hpT (.ptr none) at0 ff)) = .ok c1E := by kernel_rfl
theorem c1Bhp : c1E.h.hp = hpT (.ptr none) at0 TB := by kernel_rfl
theorem c1Bsend : sendAt? c1E.cur = some (.dyn 27, UN, finF c1E.cur undefA) := by kernel_rfl
theorem c1Bleave : leave? Try.prog (OLm []) noExt 400 ⟨finF c1E.cur undefA, c1E.callers, e0⟩ = true := by kernel_rfl
end Go.Proofs.Ythaddgfbohmfoaa
/-
  A piece of the holder's walk, in a crew of any size. Conditions: none.
-/
set_option maxRecDepth 100000
set_option linter.unusedVariables false
set_option linter.unusedSimpArgs false
namespace Go.Proofs.Ythaddgfbohmfoaa
open Go.Proofs.Ythaddgfbohmfoaa.SX Go.Conc

section
variable {base : Nat} {W0 : World} {Inb : Nat → Option Tok.Seat} {h N : Nat} {m : Machine} {T : Trace} {a : Goroutine} {w : World}

theorem SK_outer : Outer (SK Try.prog base Inb) := ⟨rfl, SK_good, fun a s => ev_read _ a s⟩
theorem room_of (A : SAt Try.prog base W0 Inb h N m T a w) : Room (SK Try.prog base Inb) w := ⟨A.new, A.low⟩

/-- What a piece comes to. -/
structure Piece (base : Nat) (W0 : World) (Inb : Nat → Option Tok.Seat) (h N : Nat) (own : Nat → Prop) (O : Orc) (ρ : Env) (cs : List Frame) (live : List Nat) (lives : FuncId → List Nat) (V : Seen) (Vs : List Seen) (w : World) (m' : Machine) (T' : Trace) (w' : World) (ρ' : Env) (hh : AH) (a1 : AFrame) (cl : List AFrame) (fr' : Frame) (frs' : List Frame) : Prop where
  at' : SAt Try.prog base W0 Inb h N m' T' (G fr' (frs' ++ cs)) w'
  agree : Agree (Below 100) ρ ρ'
  keeps : Keeps own w w'
  hp : hh.hp = V.hp
  rel : Rel ((SK Try.prog base Inb).sub O own fun _ _ => False) ρ' hh w'
  cur : frSeen a1 live = ⟨V.fn, V.nt, V.todo, V.defers, V.mode, V.kind, [], [], V.vals⟩
  fr : FrRel Try.prog ρ' a1 fr'
  cls : cl.map (fun fr => frSeen fr (lives fr.fn)) = Vs
  frs : FrRels Try.prog ρ' cl frs'

theorem walkP {fr : Frame} {frs cs : List Frame} (A : SAt Try.prog base W0 Inb h N m T (G fr (frs ++ cs)) w) {own : Nat → Prop} (hown : ∀ n, own n → (SK Try.prog base Inb).own n) (hnew : ∀ n, w.heap.size ≤ n → own n) {bs : List (BE × Bool)} {mem : List (AA × AV)} {n : Nat} {ks : List Nat} {cur : AFrame} {callers : List AFrame} {hp : List (Nat × ABlk)} {live : List Nat} {lives : FuncId → List Nat} {V : Seen} {Vs : List Seen}
    (hv : seeF (runQ bs mem n ks (cfg cur callers hp)) live lives = some (V, Vs)) (hl : cfgLow 100 (cfg cur callers hp) = true) (hO : (OO bs [] mem).low 100 = true) {ρ : Env} (hf : FrRel Try.prog ρ cur fr) (hfs : FrRels Try.prog ρ callers frs)
    (hb : ∀ p ∈ bs, p.1.ev ρ = p.2) (hm : ∀ p ∈ mem, ¬ own (p.1.ev ρ).block ∧ w.cell? (p.1.ev ρ) = some (p.2.ev ρ))
    (h1 : ∀ p ∈ hp, ∃ o, w.heap[ρ.b p.1]? = some o ∧ p.2.is Try.prog ρ o) (h2 : ∀ p ∈ hp, own (ρ.b p.1)) (h3 : (hp.map fun p => ρ.b p.1).Nodup) (h4 : ∀ p ∈ hp, ∀ n, stillI Inb (ρ.b p.1) n → p.2.lentAt Try.prog ρ n) :
    Gets Try.prog m T fun m' T' => ∃ w' ρ' hh a1 cl fr' frs', Piece base W0 Inb h N own (OO bs [] mem) ρ cs live lives V Vs w m' T' w' ρ' hh a1 cl fr' frs' := by
  obtain ⟨cl, hs, hcl⟩ := seeF_ok hv
  have W := pieceB (K := SK Try.prog base Inb) (main := h == 0) (cs := cs) SK_outer (room_of A) (own := own) (fun _ _ => False) hown hnew hs hl hO hf hfs hb (fun p hp => by cases hp) hm h1 h2 h3 (fun p hp n hn => h4 p hp n (hn.elim id False.elim)) (fun b n hn => hn.elim)
  refine (A.walk W fun a' w' hd => ?_).mono fun m' T' hd => ?_
  · obtain ⟨ρ', c', fr', frs', C⟩ := hd
    exact C.keeps.mono fun n hn => (hown n hn).1
  · obtain ⟨a', w', A', ρ', c', fr', frs', C⟩ := hd
    have hcal : c'.callers = cl := congrArg Seen.callers C.seen
    have hhp : c'.h.hp = V.hp := congrArg Seen.hp C.seen
    obtain ⟨cur', callers', hh⟩ := c'
    dsimp only at hcal hhp
    subst hcal
    refine ⟨w', ρ', hh, cur', callers', fr', frs', C.gor ▸ A', C.agree, C.keeps, hhp, C.rel, ?_, C.fr, hcl, C.frs⟩
    have hs := C.seen
    unfold Seen.under seenOf at hs
    unfold frSeen
    simp only [Seen.mk.injEq] at hs ⊢
    exact ⟨hs.1, hs.2.1, hs.2.2.1, hs.2.2.2.1, hs.2.2.2.2.1, hs.2.2.2.2.2.1, trivial, trivial, hs.2.2.2.2.2.2.2.2⟩

/-- A piece told by its closed end. -/
theorem walkE {fr : Frame} {frs cs : List Frame} (A : SAt Try.prog base W0 Inb h N m T (G fr (frs ++ cs)) w) {own : Nat → Prop} (hown : ∀ n, own n → (SK Try.prog base Inb).own n) (hnew : ∀ n, w.heap.size ≤ n → own n) {bs : List (BE × Bool)} {mem : List (AA × AV)} {n : Nat} {ks : List Nat} {cur : AFrame} {callers : List AFrame} {hp : List (Nat × ABlk)} {c' : ACfg}
    (hv : runQ bs mem n ks (cfg cur callers hp) = .ok c') (hl : cfgLow 100 (cfg cur callers hp) = true) (hO : (OO bs [] mem).low 100 = true) {ρ : Env} (hf : FrRel Try.prog ρ cur fr) (hfs : FrRels Try.prog ρ callers frs)
    (hb : ∀ p ∈ bs, p.1.ev ρ = p.2) (hm : ∀ p ∈ mem, ¬ own (p.1.ev ρ).block ∧ w.cell? (p.1.ev ρ) = some (p.2.ev ρ))
    (h1 : ∀ p ∈ hp, ∃ o, w.heap[ρ.b p.1]? = some o ∧ p.2.is Try.prog ρ o) (h2 : ∀ p ∈ hp, own (ρ.b p.1)) (h3 : (hp.map fun p => ρ.b p.1).Nodup) (h4 : ∀ p ∈ hp, ∀ n, stillI Inb (ρ.b p.1) n → p.2.lentAt Try.prog ρ n) :
    Gets Try.prog m T fun m' T' => ∃ a' w' ρ' U', SAt Try.prog base W0 Inb h N m' T' a' w' ∧ Agree (Below 100) ρ ρ' ∧ Keeps own w w' ∧ LIds U' c' ∧ LGam Try.prog ρ' c' cs a' ∧ Rel ((SK Try.prog base Inb).sub (OO bs [] mem) own fun _ _ => False) ρ' c'.h w' := by
  have Gd2 := sub_good (K := SK Try.prog base Inb) (O := OO bs [] mem) (own := own) (still := fun _ _ => False) SK_good hown
  have W := piece_cfg (K := SK Try.prog base Inb) (main := h == 0) (own := own) (still := fun _ _ => False) (O := OO bs [] mem) (cs := cs) SK_good hown ⟨fns_ok, ext_facts, mixed⟩ (ext_ok Gd2 (.inr tabC_quiet) tabC_facts) noSums_ok hv hl rfl hO hf hfs
    (rel_blocks h1 h2 h3 (fun p hp n hn => h4 p hp n (hn.elim id False.elim)) ⟨hb, (fun p hp => by cases hp), fun p hp => ⟨(hm p hp).1, (hm p hp).2, fun s => ⟨ev_read _ _ s, fun b n s e => by cases e⟩⟩⟩ hnew fun b n h => h.elim (A.low b n) False.elim)
  refine (A.walk W fun a' w' hd => ?_).mono fun m' T' hd => ?_
  · obtain ⟨ρ', U', A1, kp, _⟩ := hd
    exact kp.mono fun n hn => (hown n hn).1
  · obtain ⟨a', w', A', ρ', U', A1, kp, I, Γ, R⟩ := hd
    exact ⟨a', w', ρ', U', A', A1, kp, I, Γ, R⟩
end
theorem bare_snd (l : List (AA × AV)) : Sound Try.prog (OLm l) noExt := ⟨fun _ _ _ _ => ⟨fns_ok, ext_facts, mixed⟩, fun _ _ _ _ => noExt_ok _⟩
end Go.Proofs.Ythaddgfbohmfoaa
/-
  GateRounds' memory: what never changes; each thread's own; where each stands. Conditions: none.
-/
set_option maxRecDepth 100000
set_option linter.unusedVariables false
set_option linter.unusedSimpArgs false
namespace Go.Proofs.Ythaddgfbohmfoaa
open Go.Proofs.Ythaddgfbohmfoaa.SX Go.Conc

/-- What is fixed: how many, how often; where things lie. -/
structure Dat where
  base : Nat
  n : Nat
  OB : Nat
  X : Nat
  R : Nat
  MB : Nat
  BA : Nat
  ob : Nat
  oo : Nat
  oc : Nat
  cB : Nat
  s1 : Nat
  s2 : Nat
  N0 : Nat
  o : Nat → Nat
  ci : Nat → Nat
/-- A thread's own blocks. -/
structure Thr where
  T : Nat
  c2 : Nat
  c3 : Nat
  c5 : Nat
  wk : Nat
  sd : Nat
def ptrV (b : Nat) : Value := .pointer (some ⟨b, 0, none⟩)
def iV (n : Int) : Value := .int .i64 n
/-- The body's value. -/
def fv (D : Dat) (i : Nat) : Value := .func (.func 10) #[] #[ptrV D.OB, ptrV (D.ci i), ptrV D.X]
def thrV (D : Dat) (i : Nat) (t : Thr) (v : Value) (a : List Value) (e : Bool) : List Value := [ptrV D.R, iV i, .chan (some t.wk), .chan (some t.sd), v] ++ a ++ [.bool e]
def at0V : List Value := [iV 0, .int .i8 0, iV 0, iV 0, iV 0, iV 0, iV 0, .bool false]
def atSV (i : Nat) : List Value := [iV i, .int .i8 4, iV (-1), iV 1, iV 0, iV 0, iV 0, .bool false]
/-- How often. -/
def Dat.k (D : Dat) (i : Nat) : Nat := D.o i % 32

structure StatOk (D : Dat) (w : World) : Prop where
  box : ObjAt w D.OB [.slice (some ⟨D.ob, D.oo, none⟩) D.n D.oc] 22
  often : ∀ i, i < D.n → w.cell? ⟨D.ob, D.oo + i, none⟩ = some (.int .u8 (D.o i))
  ci : ∀ i, i < D.n → ObjAt w (D.ci i) [iV i] 3
  body : ∀ i, i < D.n → w.cell? ⟨D.BA, i, none⟩ = some (fv D i)
  bty : Ty w D.BA 35
  old : D.ob < D.base
  o8 : ∀ i, D.o i < 256
  n40 : D.n ≤ 40
structure ThrOk (D : Dat) (w : World) (i : Nat) (t : Thr) : Prop where
  c2 : ObjAt w t.c2 [ptrV D.R] 75
  c3 : ObjAt w t.c3 [fv D i] 35
  c5 : ObjAt w t.c5 [ptrV t.T] 30
  wk : ChanAt w t.wk
  sd : ChanAt w t.sd
  T : Ty w t.T 78

section
variable {D : Dat} {w w' : World} {own : Nat → Prop}
theorem StatOk.keep (h : StatOk D w) (kp : Keeps own w w') (h1 : ¬ own D.OB) (h2 : ¬ own D.ob) (h3 : ∀ i, i < D.n → ¬ own (D.ci i)) (h4 : ¬ own D.BA) : StatOk D w' :=
  ⟨h.box.keep kp h1, fun i hi => by
    have := h.often i hi
    simp only [World.cell?] at this ⊢
    rw [kp.heap _ h2]; exact this, fun i hi => (h.ci i hi).keep kp (h3 i hi), fun i hi => by
    have := h.body i hi
    simp only [World.cell?] at this ⊢
    rw [kp.heap _ h4]; exact this, h.bty.keep kp h4, h.old, h.o8, h.n40⟩
theorem ThrOk.keep {i : Nat} {t : Thr} (h : ThrOk D w i t) (kp : Keeps own w w') (h1 : ¬ own t.c2) (h2 : ¬ own t.c3) (h3 : ¬ own t.c5) (h4 : ¬ own t.wk) (h5 : ¬ own t.sd) (hT : Ty w' t.T 78) : ThrOk D w' i t :=
  ⟨h.c2.keep kp h1, h.c3.keep kp h2, h.c5.keep kp h3, h.wk.keep kp h4, h.sd.keep kp h5, hT⟩
end

/-- The assignment of a thread's pieces. -/
noncomputable def stE (D : Dat) (i k : Nat) (t : Thr) (AB : Nat) : Env := mkE [(1, D.n), (2, i), (3, k), (4, D.o i), (7, D.oc), (8, D.oo), (29, D.cB)] [(9, D.ob), (10, D.R), (11, D.OB), (12, D.ci i), (13, D.X), (14, t.T), (15, D.MB), (16, t.c2), (17, t.c5), (18, t.c3), (25, AB), (26, t.wk), (27, t.sd), (28, D.BA), (30, D.s1), (31, D.s2)] []

/-- The seat of one that stands. -/
noncomputable def stSeat (D : Dat) (i k : Nat) (t : Thr) (AB : Nat) (s33 s11 s10 s76 : Nat → Value) (B : Nat) : Tok.Seat := mkSeat Try.prog (OLm stWt) (Below 100) (stE D i k t AB) [baseF Try.prog] B ⟨stRv s33, stCl s11 s10 s76, e0⟩ (.dyn 26) (.agg #[]) false
/-- Its access: a block of its own. -/
structure AbObj (D : Dat) (w : World) (AB i : Nat) : Prop where
  obj : ObjAt w AB (atSV i) 61
  ge : D.base ≤ AB
theorem AbObj.keep {D : Dat} {w w' : World} {AB i : Nat} {own : Nat → Prop} (h : AbObj D w AB i) (kp : Keeps own w w') (hb : ¬ own AB) : AbObj D w' AB i := ⟨h.obj.keep kp hb, h.ge⟩
theorem AbObj.ty {D : Dat} {w : World} {AB i : Nat} (h : AbObj D w AB i) : Ty w AB 61 := h.obj.ty
theorem AbObj.lt {D : Dat} {w : World} {AB i : Nat} (h : AbObj D w AB i) : AB < w.heap.size := h.obj.lt
/-- It stands, with so many done. -/
def Stands (D : Dat) (w : World) (i k : Nat) (t : Thr) (so : Option Tok.Seat) : Prop :=
  ∃ AB s33 s11 s10 s76 B, so = some (stSeat D i k t AB s33 s11 s10 s76 B) ∧ AbObj D w AB i ∧ ObjAt w t.T (thrV D i t (ptrV D.X) (atSV i) false) 78
/-- It has ended. -/
def Ended (D : Dat) (w : World) (i : Nat) (t : Thr) (so : Option Tok.Seat) : Prop := so = none ∧ ∃ v a, a.length = 8 ∧ ObjAt w t.T (thrV D i t v a true) 78
def Now (D : Dat) (w : World) (i k : Nat) (t : Thr) (so : Option Tok.Seat) : Prop := (k < D.k i ∧ Stands D w i k t so) ∨ (D.k i ≤ k ∧ Ended D w i t so)

theorem stSeat_still {D : Dat} {i k : Nat} {t : Thr} {AB : Nat} {s33 s11 s10 s76 : Nat → Value} {B : Nat} {l : Loc} : (stSeat D i k t AB s33 s11 s10 s76 B).still l ↔ l = .cell ⟨t.T, 2, none⟩ := by
  constructor
  · rintro ⟨p, hp, e⟩
    obtain rfl := List.mem_singleton.1 hp
    exact e
  · intro e
    exact ⟨_, List.mem_singleton.2 rfl, e⟩
theorem stSeat_c {D : Dat} {i k : Nat} {t : Thr} {AB : Nat} {s33 s11 s10 s76 : Nat → Value} {B : Nat} : (stSeat D i k t AB s33 s11 s10 s76 B).c = t.wk := rfl

/-! ### A body's number -/
theorem mod_ev {ρ : Env} {x : Nat} (h : ρ.i 4 = x) (hx : x < 256) : modE.ev ρ = ((x % 32 : Nat) : Int) := by
  show iop .rem .u8 (ρ.i 4) 32 = _
  rw [h]
  simp only [iop]
  rw [Int.tmod_eq_emod_of_nonneg (by omega)]
  norm_cast
end Go.Proofs.Ythaddgfbohmfoaa

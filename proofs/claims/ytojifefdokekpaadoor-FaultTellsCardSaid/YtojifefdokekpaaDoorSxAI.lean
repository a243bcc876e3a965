/-
  A symbolic run of the model, proved sound, and its use on the given code: a text of its parts. Conditions: none.
-/
import Derived.Test.YtojifefdokekpaaDoorSxAH
import Derived.Lib.ItoaLen
set_option maxRecDepth 100000
set_option linter.unusedVariables false
set_option linter.unusedSimpArgs false
namespace Go.Proofs.YtojifefdokekpaaDoor
open Go.Proofs.YtojifefdokekpaaDoor.SX Go.Conc
def lc (a b : SE) : BE × Bool := (.cmp .leq (.slen (.cat a b)) (.lit 4611686018427387904), true)
noncomputable def ss (n : Nat) : AV := .ss (.var n)
def bL (l : List UInt8) : SE := .lit ⟨l.toArray⟩
theorem ba_app (a b : List UInt8) : (⟨a.toArray⟩ : ByteArray) ++ ⟨b.toArray⟩ = ⟨(a ++ b).toArray⟩ := by
  apply ByteArray.ext
  show ((⟨a.toArray⟩ : ByteArray) ++ ⟨b.toArray⟩).data = _
  rw [ByteArray.data_append]
  simp
theorem ba_size (a : List UInt8) : (⟨a.toArray⟩ : ByteArray).size = a.length := by simp [ByteArray.size]
theorem lc_ok {ρ : Env} {a b : SE} {x y : List UInt8} (ha : a.ev ρ = ⟨x.toArray⟩) (hb : b.ev ρ = ⟨y.toArray⟩) (h : x.length + y.length ≤ 4611686018427387904) : (lc a b).1.ev ρ = (lc a b).2 := by
  show decide ((((a.ev ρ ++ b.ev ρ).size : Nat) : Int) ≤ 4611686018427387904) = true
  rw [ha, hb, ba_app, ba_size, List.length_append]
  exact decide_eq_true (by omega)
theorem itoa_len {n : Int} (h : I64 n) : (Lib.itoa n).length ≤ 21 := Lib.itoa_length_le n h.1 h.2
section
variable {w : World} {cs : List Frame} {fr : Frame} {n : Int}
noncomputable def toF (t : List Item) (l : List (Nat × AV)) (st : Nat → Value) : AFrame := ⟨30, 10, tmpsOf 10 st l, t, [], .run, .normal⟩
noncomputable def toT (l : List Nat) : List Item := [.inRegion (opsOf (pc (bodyOf Tryd.f30) [1,0])) l, .code .ret]
theorem toIn (st : Nat → Value) : seeF (runZ [lc (.var 1) (bL [32])] [] 9 [] (cfg (toF [.code (bodyOf Tryd.f30)] [(0, ss 1), (1, i64 (v 2))] st) [] [])) [6, 7] noL = some (⟨30, 10, toT [3, 4, 5], [], .run, .normal, [], [], [.ss (.cat (.var 1) (bL [32])), i64 (v 2)]⟩, []) := by kernel_rfl
theorem toInLow (st : Nat → Value) : cfgLow 100 (cfg (toF [.code (bodyOf Tryd.f30)] [(0, ss 1), (1, i64 (v 2))] st) [] []) = true := by kernel_rfl
theorem toOut (st : Nat → Value) : seeF (runZ [lc (.var 4) (.var 3)] [] 3 [] (cfg (toF (toT [4, 5]) [(6, ss 4), (8, ss 3)] st) [] [])) [4] noL = some (⟨30, 10, .code .ret :: [], [], .run, .normal, [], [], [.ss (.cat (.var 4) (.var 3))]⟩, []) := by kernel_rfl
theorem toOutLow (st : Nat → Value) : cfgLow 100 (cfg (toF (toT [4, 5]) [(6, ss 4), (8, ss 3)] st) [] []) = true := by kernel_rfl
theorem ent30 : enterA Tryd.prog 30 [.opq 0, .opq 1] .normal = .ok ⟨30, 10, entT 30 [.opq 0, .opq 1], [.code (bodyOf Tryd.f30)], [], .run, .normal⟩ := by kernel_rfl
theorem told_all {a : List UInt8} (ha : a.length ≤ 1000) (hn : I64 n) (ht : TabAt w) : Ans 30 #[tV a, iV n] w fun v w' => Fresh w w' ∧ v = tV (a ++ [32] ++ Lib.itoa n) := by
  refine ans_of fun cs => ?_
  have hlen := itoa_len hn
  refine (pieceF (ρ := Go.Proofs.YtojifefdokekpaaDoor.SX.mkS [(2, n)] [] [] [(1, ⟨a.toArray⟩)]) (toIn (stOf _)) rfl rfl (toInLow _) (by kernel_rfl) ((enter2 ent30 rfl (tV a) (iV n)).rel (.inl rfl) [(0, ss 1), (1, i64 (v 2))] rfl rfl) (fun q hq => by
    obtain rfl := List.mem_singleton.1 hq
    exact lc_ok (x := a) (y := [32]) rfl rfl (by simp only [List.length_singleton]; omega)) (fun q hq => by cases hq) List.nodup_nil).trans fun g1 w1 hd => ?_
  obtain ⟨ρ', fr1, rfl, f1, Ag, F1, _⟩ := hd
  have s1 : ρ'.s 1 = ⟨a.toArray⟩ := congrFun Ag.s 1
  have i2 : ρ'.i 2 = n := Ag.i 2 (by decide)
  have F1' : FA 30 10 (toT [3, 4, 5]) [] .normal [(6, tV (a ++ [32])), (7, iV n)] fr1 := by
    have e0 : [6, 7].zip (AV.evs ρ' [.ss (.cat (.var 1) (bL [32])), i64 (v 2)]) = [(6, tV (a ++ [32])), (7, iV n)] := by
      show [(6, Value.string (ρ'.s 1 ++ ⟨[32].toArray⟩)), (7, iV (ρ'.i 2))] = _
      rw [s1, i2, ba_app]; rfl
    rw [← e0]; exact F1
  refine (op_call (ρ := mkE [] [] [(50, iV n)]) (lA := [(7, .opq 50)]) (bs := []) (mem := []) (f := 38) (args := [.opq 50, i64 (.lit 10)]) (d := 8) (Q := fun v w' => Fresh w1 w' ∧ v = tV (Lib.itoa n)) F1' (fun q hq => List.mem_cons_of_mem _ hq) (fun st => by kernel_rfl) (fun st => by kernel_rfl) (fun st => by kernel_rfl) (fun p hp => by cases hp) (fun p hp => by cases hp) (by kernel_rfl) (by decide) rfl (fun w2 f2 => (fmt_all hn (ht.keep (f1.trans f2))).mono fun v w3 O => ⟨f2.trans O.1, O.2⟩)).trans fun g2 w2 hd2 => ?_
  obtain ⟨fr2, vv, rfl, ⟨f2, rfl⟩, F2⟩ := hd2
  have F2' : FA 30 10 (toT [4, 5]) [] .normal [(6, tV (a ++ [32])), (8, tV (Lib.itoa n))] fr2 := F2.sub fun q hq => by
    simp only [List.mem_cons, List.not_mem_nil, or_false] at hq
    rcases hq with rfl | rfl
    · exact List.mem_cons_of_mem _ (List.mem_filter.2 ⟨List.mem_cons_self .., rfl⟩)
    · exact List.mem_cons_self ..
  refine (pieceF (ρ := Go.Proofs.YtojifefdokekpaaDoor.SX.mkS [] [] [] [(4, ⟨(a ++ [32]).toArray⟩), (3, ⟨(Lib.itoa n).toArray⟩)]) (toOut (stOf fr2)) rfl rfl (toOutLow _) (by kernel_rfl) (F2'.rel (.inl rfl) [(6, ss 4), (8, ss 3)] rfl rfl) (fun q hq => by
    obtain rfl := List.mem_singleton.1 hq
    exact lc_ok (x := a ++ [32]) (y := Lib.itoa n) rfl rfl (by simp only [List.length_append, List.length_singleton]; omega)) (fun q hq => by cases hq) List.nodup_nil).trans fun g3 w3 hd3 => ?_
  obtain ⟨ρ3, fr3, rfl, f3, Ag3, F3, _⟩ := hd3
  have s4 : ρ3.s 4 = ⟨(a ++ [32]).toArray⟩ := congrFun Ag3.s 4
  have s3 : ρ3.s 3 = ⟨(Lib.itoa n).toArray⟩ := congrFun Ag3.s 3
  refine (leave_tmp (fun st => by kernel_rfl) F3 (List.mem_singleton.2 rfl)).mono fun g4 w4 hd4 => ?_
  obtain ⟨fr4, rfl, rfl, hL⟩ := hd4
  refine ⟨fr4, _, rfl, hL, (f1.trans f2).trans f3, ?_⟩
  show Value.string (ρ3.s 4 ++ ρ3.s 3) = _
  rw [s4, s3, ba_app]; rfl
noncomputable def erF (k : Nat) : Func := match k with
  | 1 => Tryd.f15
  | 2 => Tryd.f16
  | _ => Tryd.f17
def erW : Nat → List UInt8
  | 1 => [102, 97, 105, 108, 101, 100]
  | 2 => [99, 97, 110, 99, 101, 108, 108, 101, 100]
  | _ => [108, 97, 116, 101]
noncomputable def erT (k : Nat) (l : List Nat) : List Item := [.inRegion (opsOf (pc (bodyOf (erF k)) [1,1,0])) l, .code .ret]
noncomputable def erA (k : Nat) (t : List Item) (l : List (Nat × AV)) (st : Nat → Value) : AFrame := ⟨14 + k, 10, tmpsOf 10 st l, t, [], .run, .normal⟩
theorem erIn {k : Nat} (h : 1 ≤ k ∧ k ≤ 3) (st : Nat → Value) : seeF (runZ [] [(⟨.dyn 60, .lit 0⟩, i64 (v 2))] 18 [] (cfg (erA k [.code (bodyOf (erF k))] [(0, ptr0 60)] st) [] [])) [8] noL = some (⟨14 + k, 10, erT k [4, 5], [], .run, .normal, [], [], [i64 (v 2)]⟩, []) := by
  rcases (by omega : k = 1 ∨ k = 2 ∨ k = 3) with rfl | rfl | rfl <;> kernel_rfl
theorem erInLow (k : Nat) (st : Nat → Value) : cfgLow 100 (cfg (erA k [.code (bodyOf (erF k))] [(0, ptr0 60)] st) [] []) = true := by kernel_rfl
theorem erOut {k : Nat} (h : 1 ≤ k ∧ k ≤ 3) (st : Nat → Value) : seeF (runZ [] [] 2 [] (cfg (erA k (erT k [5]) [(9, .opq 60)] st) [] [])) [2] noL = some (⟨14 + k, 10, .code .ret :: [], [], .run, .normal, [], [], [.opq 60]⟩, []) := by
  rcases (by omega : k = 1 ∨ k = 2 ∨ k = 3) with rfl | rfl | rfl <;> kernel_rfl
theorem erOutLow (k : Nat) (st : Nat → Value) : cfgLow 100 (cfg (erA k (erT k [5]) [(9, .opq 60)] st) [] []) = true := by kernel_rfl
theorem erEnt {k : Nat} (h : 1 ≤ k ∧ k ≤ 3) : enterA Tryd.prog (14 + k) [.opq 0] .normal = .ok ⟨14 + k, 10, entT (14 + k) [.opq 0], [.code (bodyOf (erF k))], [], .run, .normal⟩ := by
  rcases (by omega : k = 1 ∨ k = 2 ∨ k = 3) with rfl | rfl | rfl <;> kernel_rfl
theorem erSeen {k : Nat} (h : 1 ≤ k ∧ k ≤ 3) : frSeen (⟨14 + k, 10, entT (14 + k) [.opq 0], [.code (bodyOf (erF k))], [], .run, .normal⟩ : AFrame) [0] = ⟨14 + k, 10, [.code (bodyOf (erF k))], [], .run, .normal, [], [], [.opq 0]⟩ := by
  rcases (by omega : k = 1 ∨ k = 2 ∨ k = 3) with rfl | rfl | rfl <;> kernel_rfl
theorem erRes {k : Nat} (h : 1 ≤ k ∧ k ≤ 3) (st : Nat → Value) : results? Tryd.prog (OO [] []) hN (14 + k) (tmpsOf 10 st [(2, .opq 60)]) = .ok (.opq 60) := by
  rcases (by omega : k = 1 ∨ k = 2 ∨ k = 3) with rfl | rfl | rfl <;> kernel_rfl
theorem erWant {k : Nat} (h : 1 ≤ k ∧ k ≤ 3) (st : Nat → Value) : wantA [] [] (tmpsOf 10 st [(8, .opq 50)]) (opsOf (pc (bodyOf (erF k)) [1,1,0])) 4 = .ok true := by
  rcases (by omega : k = 1 ∨ k = 2 ∨ k = 3) with rfl | rfl | rfl <;> kernel_rfl
theorem erOp {k : Nat} (h : 1 ≤ k ∧ k ≤ 3) (st : Nat → Value) : opA [] [] (tmpsOf 10 st [(8, .opq 50)]) (opsOf (pc (bodyOf (erF k)) [1,1,0])) 4 = .ok (.enter 30 [.str ⟨(erW k).toArray⟩, .opq 50], hN) := by
  rcases (by omega : k = 1 ∨ k = 2 ∨ k = 3) with rfl | rfl | rfl <;> kernel_rfl
theorem erDst {k : Nat} (h : 1 ≤ k ∧ k ≤ 3) : dstOf (opsOf (pc (bodyOf (erF k)) [1,1,0])) 4 = some 9 := by
  rcases (by omega : k = 1 ∨ k = 2 ∨ k = 3) with rfl | rfl | rfl <;> kernel_rfl
theorem er_all {k : Nat} (h : 1 ≤ k ∧ k ≤ 3) {A : Nat} (hA : w.cell? ⟨A, 0, none⟩ = some (iV n)) (hn : I64 n) (ht : TabAt w) : Ans (14 + k) #[ptrV A] w fun v w' => Fresh w w' ∧ v = tV (erW k ++ [32] ++ Lib.itoa n) := by
  refine ans_of fun cs => ?_
  refine (pieceF (ρ := mkE [(2, n)] [(60, A)] []) (erIn h (stOf _)) rfl rfl (erInLow k _) (by kernel_rfl) ((enter1 (erEnt h) (erSeen h) (ptrV A)).rel (.inl rfl) [(0, ptr0 60)] rfl rfl) (fun q hq => by cases hq) (fun q hq => by
    obtain rfl := List.mem_singleton.1 hq
    exact hA) List.nodup_nil).trans fun g1 w1 hd => ?_
  obtain ⟨ρ', fr1, rfl, f1, Ag, F1, _⟩ := hd
  have i2 : ρ'.i 2 = n := Ag.i 2 (by decide)
  have F1' : FA (14 + k) 10 (erT k [4, 5]) [] .normal [(8, iV n)] fr1 := by rw [← i2]; exact F1
  have hwl : (erW k).length ≤ 1000 := by
    rcases (by omega : k = 1 ∨ k = 2 ∨ k = 3) with rfl | rfl | rfl <;> decide
  refine (op_call (ρ := mkE [] [] [(50, iV n)]) (lA := [(8, .opq 50)]) (bs := []) (mem := []) (f := 30) (args := [.str ⟨(erW k).toArray⟩, .opq 50]) (d := 9) (Q := fun v w' => Fresh w1 w' ∧ v = tV (erW k ++ [32] ++ Lib.itoa n)) F1' (fun q hq => hq) (erWant h) (erOp h) (fun st => by kernel_rfl) (fun p hp => by cases hp) (fun p hp => by cases hp) (erDst h) (by decide) rfl (fun w2 f2 => (told_all hwl hn (ht.keep (f1.trans f2))).mono fun v w3 O => ⟨f2.trans O.1, O.2⟩)).trans fun g2 w2 hd2 => ?_
  obtain ⟨fr2, vv, rfl, ⟨f2, rfl⟩, F2⟩ := hd2
  have F2' : FA (14 + k) 10 (erT k [5]) [] .normal [(9, tV (erW k ++ [32] ++ Lib.itoa n))] fr2 := F2.sub fun q hq => by
    obtain rfl := List.mem_singleton.1 hq
    exact List.mem_cons_self ..
  refine (pieceF (ρ := mkE [] [] [(60, tV (erW k ++ [32] ++ Lib.itoa n))]) (erOut h (stOf fr2)) rfl rfl (erOutLow k _) (by kernel_rfl) (F2'.rel (.inl rfl) [(9, .opq 60)] rfl rfl) (fun q hq => by cases hq) (fun q hq => by cases hq) List.nodup_nil).trans fun g3 w3 hd3 => ?_
  obtain ⟨ρ3, fr3, rfl, f3, Ag3, F3, _⟩ := hd3
  have v60 : ρ3.v 60 = tV (erW k ++ [32] ++ Lib.itoa n) := congrFun Ag3.v 60
  refine (leave_tmp (x := ρ3.v 60) (erRes h) F3 (List.mem_singleton.2 rfl)).mono fun g4 w4 hd4 => ?_
  obtain ⟨fr4, rfl, rfl, hL⟩ := hd4
  exact ⟨fr4, _, rfl, hL, (f1.trans f2).trans f3, v60⟩
theorem ent18 : enterA Tryd.prog 18 [.opq 0] .normal = .ok ⟨18, 5, entT 18 [.opq 0], [.code (bodyOf Tryd.f18)], [], .run, .normal⟩ := by kernel_rfl
def panicT : List UInt8 := [112, 97, 110, 105, 99]
def plainT : List UInt8 := [112, 108, 97, 105, 110]
theorem er18 (st : Nat → Value) : seeF (runZ [] [] 16 [] (cfg ⟨18, 5, tmpsOf 5 st [(0, ptr0 60)], [.code (bodyOf Tryd.f18)], [], .run, .normal⟩ [] [])) [2] noL = some (⟨18, 5, .code .ret :: [], [], .run, .normal, [], [], [.str ⟨panicT.toArray⟩]⟩, []) := by kernel_rfl
theorem panic_all {A : Nat} : Ans 18 #[ptrV A] w fun v w' => Fresh w w' ∧ v = tV panicT := by
  refine (ansP (ρ := mkE [] [(60, A)] []) (lA := [(0, ptr0 60)]) (enter1 ent18 rfl (ptrV A)) rfl er18 (fun st => by kernel_rfl) (by kernel_rfl) (fun st => by kernel_rfl) (fun p hp => by cases hp) (fun p hp => by cases hp) List.nodup_nil).mono fun v w' hd => ?_
  obtain ⟨f1, ρ', Ag, rfl, _⟩ := hd
  exact ⟨f1, rfl⟩
theorem ent89 : enterA Tryd.prog 89 [.opq 0] .normal = .ok ⟨89, 7, entT 89 [.opq 0], [.code (bodyOf Tryd.f89)], [], .run, .normal⟩ := by kernel_rfl
noncomputable def plA : AV := .ptr (some ⟨.dyn 60, v 3⟩)
theorem er89 (st : Nat → Value) : seeF (runZ [] [(⟨.dyn 60, v 3⟩, ss 1)] 12 [] (cfg ⟨89, 7, tmpsOf 7 st [(0, plA)], [.code (bodyOf Tryd.f89)], [], .run, .normal⟩ [] [])) [2] noL = some (⟨89, 7, .code .ret :: [], [], .run, .normal, [], [], [ss 1]⟩, []) := by kernel_rfl
theorem plain_all {A o : Nat} {s : ByteArray} (hA : w.cell? ⟨A, o, none⟩ = some (.string s)) : Ans 89 #[.pointer (some ⟨A, o, none⟩)] w fun v w' => Fresh w w' ∧ v = .string s := by
  refine (ansP (ρ := Go.Proofs.YtojifefdokekpaaDoor.SX.mkS [(3, o)] [(60, A)] [] [(1, s)]) (lA := [(0, plA)]) (enter1 ent89 rfl (.pointer (some ⟨A, o, none⟩))) rfl er89 (fun st => by kernel_rfl) (by kernel_rfl) (fun st => by kernel_rfl) (fun p hp => by cases hp) (fun q hq => by
    obtain rfl := List.mem_singleton.1 hq
    exact hA) List.nodup_nil).mono fun v w' hd => ?_
  obtain ⟨f1, ρ', Ag, rfl, _⟩ := hd
  refine ⟨f1, ?_⟩
  show Value.string (ρ'.s 1) = _
  rw [show ρ'.s 1 = s from congrFun Ag.s 1]
end
end Go.Proofs.YtojifefdokekpaaDoor
set_option maxRecDepth 100000
set_option linter.unusedVariables false
set_option linter.unusedSimpArgs false
namespace Go.Proofs.YtojifefdokekpaaDoor
open Go.Proofs.YtojifefdokekpaaDoor.SX Go.Conc
def rnI (i : Int) : Int := IntKind.wrap .i32 (iop .add .i64 48 (iop .rem .i64 i 10))
def rn (i : Int) : List UInt8 := (Utf8.encode (rnI i)).data.toList
theorem rn_len (i : Int) : (rn i).length ≤ 4 := by
  unfold rn Utf8.encode
  dsimp only
  generalize (if Utf8.valid (rnI i) = true then (rnI i).toNat else Utf8.runeError) = c
  by_cases h1 : c < 128
  · rw [if_pos h1]; simp
  · rw [if_neg h1]
    by_cases h2 : c < 2048
    · rw [if_pos h2]; simp
    · rw [if_neg h2]
      by_cases h3 : c < 65536
      · rw [if_pos h3]; simp
      · rw [if_neg h3]; simp
def errW : List UInt8 := [101, 114, 114, 111, 114, 32]
def digF : Nat → Int → List UInt8 → List UInt8
  | 0, _, acc => acc
  | m + 1, i, acc => if i > 0 then digF m (iop .quo .i64 i 10) (rn i ++ acc) else acc
def errT (n : Int) : List UInt8 := errW ++ digF 20 n []
theorem digF_len : ∀ (m : Nat) (i : Int) (acc : List UInt8), (digF m i acc).length ≤ acc.length + 4 * m
  | 0, i, acc => by simp [digF]
  | m + 1, i, acc => by
    unfold digF
    split
    · have := digF_len m (iop .quo .i64 i 10) (rn i ++ acc)
      have h2 := rn_len i
      rw [List.length_append] at this
      omega
    · omega
theorem errT_len (n : Int) : (errT n).length ≤ 100 := by
  have := digF_len 20 n []
  unfold errT
  rw [List.length_append]
  simp only [errW, List.length_cons, List.length_nil] at this ⊢
  omega
noncomputable def eoQ (l : List Nat) : Code := pc (bodyOf Tryd.f39) l
noncomputable def eoT : List Item := [.code (eoQ [1,1,0,1,0,0]), .inLoop (eoQ [1,1,0,1,0,0]), .inBlock 0, .code (eoQ [1,1,1])]
noncomputable def eoO : Array Oper := opsOf (eoQ [1,1,0,1,0,0,1,0,0])
noncomputable def eoC (l : List Nat) : List Item := [.inRegion eoO l, .inBlock 1, .code (eoQ [1,1,0,1,0,0,1,1]), .inLoop (eoQ [1,1,0,1,0,0]), .inBlock 0, .code (eoQ [1,1,1])]
noncomputable def eoF (t : List Item) (l : List (Nat × AV)) (st : Nat → Value) : AFrame := ⟨39, 19, tmpsOf 19 st l, t, [], .run, .normal⟩
noncomputable def eoH (st : Nat → Value) : AFrame := eoF eoT [(3, ss 1), (4, i64 (v 4))] st
theorem eoIn (st : Nat → Value) : seeF (runZ [] [] 16 [] (cfg (eoF [.code (bodyOf Tryd.f39)] [(0, i64 (v 2))] st) [] [])) [3, 4] noL = some (⟨39, 19, eoT, [], .run, .normal, [], [], [.str ⟨#[]⟩, i64 (v 2)]⟩, []) := by kernel_rfl
theorem eoInLow (st : Nat → Value) : cfgLow 100 (cfg (eoF [.code (bodyOf Tryd.f39)] [(0, i64 (v 2))] st) [] []) = true := by kernel_rfl
theorem eoHLow (st : Nat → Value) : cfgLow 100 (cfg (eoH st) [] []) = true := by kernel_rfl
noncomputable def rnE : IE := .conv .i32 (.op .add .i64 (.lit 48) (.op .rem .i64 (v 4) (.lit 10)))
theorem eoGo (st : Nat → Value) : seeF (runZ [(.cmp .gtr (v 4) (.lit 0), true)] [] 15 [] (cfg (eoH st) [] [])) [3, 4, 13] noL = some (⟨39, 19, eoC [4, 5, 6, 7], [], .run, .normal, [], [], [ss 1, i64 (v 4), .int .i32 rnE]⟩, []) := by kernel_rfl
theorem eoGo2 (st : Nat → Value) : seeF (runZ [lc (.var 3) (.var 1)] [] 11 [] (cfg (eoF (eoC [5, 6, 7]) [(3, ss 1), (4, i64 (v 4)), (14, ss 3)] st) [] [])) [3, 4] noL = some (⟨39, 19, eoT, [], .run, .normal, [], [], [.ss (.cat (.var 3) (.var 1)), i64 (.op .quo .i64 (v 4) (.lit 10))]⟩, []) := by kernel_rfl
theorem eoGo2Low (st : Nat → Value) : cfgLow 100 (cfg (eoF (eoC [5, 6, 7]) [(3, ss 1), (4, i64 (v 4)), (14, ss 3)] st) [] []) = true := by kernel_rfl
theorem eoEnd (st : Nat → Value) : seeF (runZ [(.cmp .gtr (v 4) (.lit 0), false), lc (bL errW) (.var 1)] [] 14 [] (cfg (eoH st) [] [])) [2] noL = some (⟨39, 19, .code .ret :: [], [], .run, .normal, [], [], [.ss (.cat (bL errW) (.var 1))]⟩, []) := by kernel_rfl
theorem eoSome : (eoO[4]?).isSome = true := by kernel_rfl
noncomputable def eoOp : Oper := (eoO[4]?).get eoSome
theorem eoIs : eoO[4]? = some eoOp := (Option.some_get _).symm
theorem eoDo : eoOp.op = .convert 21 9 (.tmp 13) := by kernel_rfl
theorem eoG : eoOp.guard = none := by kernel_rfl
theorem eoD : eoOp.dst = some 14 := by kernel_rfl
theorem eoU1 : under? Tryd.prog 21 = .ok (.int .i32) := by kernel_rfl
theorem eoU2 : under? Tryd.prog 9 = .ok .string := by kernel_rfl
theorem ent39 : enterA Tryd.prog 39 [.opq 0] .normal = .ok ⟨39, 19, entT 39 [.opq 0], [.code (bodyOf Tryd.f39)], [], .run, .normal⟩ := by kernel_rfl
section
variable {w : World} {cs : List Frame} {fr : Frame} {n : Int} {fn nt i d : Nat} {ops : Array Oper} {op : Oper} {l : List Nat} {k : List Item} {ds : List Deferred} {kind : CallKind} {lv : List (Nat × Value)}
theorem op_pure (hf : FA fn nt (.inRegion ops (i :: l) :: k) ds kind lv fr) (ho : ops[i]? = some op) (hg : op.guard = none) (hd : op.dst = some d) (hdn : d < nt) {x : Value} (W : ∀ tm : Array Value, (∀ p ∈ lv, tm.getD p.1 undef = p.2) → wq Tryd.prog (fun _ => True) (fun _ _ => False) (execOp (⟨tm, ds⟩ : Act).eval op) (fun nx w' => nx = .value x ∧ w' = w) w) :
    Goes (G fr cs) w fun g' w' => ∃ fr', g' = G fr' cs ∧ w' = w ∧ FA fn nt (.inRegion ops l :: k) ds kind (lvPut d x lv) fr' := by
  obtain ⟨⟨tm, rfl, h2, h3⟩, h4, h5⟩ := hf
  have hwt : Region.wanted op (yielded ops (⟨tm, ds⟩ : Act).tmps) = true := by unfold Region.wanted; rw [hg]
  have q1 : ((execOp (⟨tm, ds⟩ : Act).eval op).run Tryd.prog w).goes (fun nx w' => nx = .value x ∧ w' = w) (fun _ _ => False) := (wq_run (W tm h3)).1
  have hgs := stepG_op (P := Tryd.prog) (b := Go.Proofs.YtojifefdokekpaaDoor.SX.mkF fn kind) (k := k) (cs := cs) (w := w) (rest := l) (a := ⟨tm, ds⟩) ho hwt
  cases e : (execOp (⟨tm, ds⟩ : Act).eval op).run Tryd.prog w with
  | halt x w' =>
    rw [e] at q1
    cases x <;> exact q1.elim
  | ok nx w' =>
    rw [e] at q1
    obtain ⟨rfl, rfl⟩ := q1
    have s : step Tryd.prog (lone ((Go.Proofs.YtojifefdokekpaaDoor.SX.mkF fn kind).at ⟨tm, ds⟩ (.inRegion ops (i :: l) :: k)) cs w') = .next (lone ((Go.Proofs.YtojifefdokekpaaDoor.SX.mkF fn kind).at ((⟨tm, ds⟩ : Act).put ((ops[i]?).bind (·.dst)) x) (.inRegion ops l :: k)) cs w') := by
      refine step_lone_go ?_
      rw [hgs, ← Frame.finish_at]
      simp [stepG.apply, e]
    refine ⟨_, w', .head s (.refl _ _), _, rfl, rfl, ?_⟩
    rw [ho, Option.bind_some, hd]
    exact put_fa h2 h3 h4 h5 hdn
theorem eo_loop {w0 : World} : ∀ (m : Nat) (i : Int) (acc : List UInt8) {w : World} {fr : Frame}, i < 10 ^ m → i ≤ 9223372036854775807 → acc.length + 4 * m ≤ 1000 → Fresh w0 w → FA 39 19 eoT [] .normal [(3, tV acc), (4, iV i)] fr →
    Goes (G fr cs) w fun g' w' => ∃ fr', g' = G fr' cs ∧ Fresh w0 w' ∧ Leav 39 fr' w' (tV (errW ++ digF m i acc)) := by
  have fin : ∀ (i : Int) (acc : List UInt8) {w : World} {fr : Frame}, ¬ i > 0 → acc.length ≤ 1000 → Fresh w0 w → FA 39 19 eoT [] .normal [(3, tV acc), (4, iV i)] fr → Goes (G fr cs) w fun g' w' => ∃ fr', g' = G fr' cs ∧ Fresh w0 w' ∧ Leav 39 fr' w' (tV (errW ++ acc)) := by
    intro i acc w fr hi ha fw hf
    refine (pieceF (ρ := Go.Proofs.YtojifefdokekpaaDoor.SX.mkS [(4, i)] [] [] [(1, ⟨acc.toArray⟩)]) (eoEnd (stOf fr)) rfl rfl (eoHLow _) (by kernel_rfl) (hf.rel (.inl rfl) [(3, ss 1), (4, i64 (v 4))] rfl rfl) (fun q hq => ?_) (fun q hq => by cases hq) List.nodup_nil).trans fun g3 w3 hd3 => ?_
    · simp only [List.mem_cons, List.not_mem_nil, or_false] at hq
      rcases hq with rfl | rfl
      · show decide (i > 0) = false
        exact decide_eq_false hi
      · exact lc_ok (x := errW) (y := acc) rfl rfl (by simp only [errW, List.length_cons, List.length_nil]; omega)
    · obtain ⟨ρ3, fr3, rfl, f3, Ag3, F3, _⟩ := hd3
      have s1 : ρ3.s 1 = ⟨acc.toArray⟩ := congrFun Ag3.s 1
      refine (leave_tmp (fun st => by kernel_rfl) F3 (List.mem_singleton.2 rfl)).mono fun g4 w4 hd4 => ?_
      obtain ⟨fr4, rfl, rfl, hL⟩ := hd4
      refine ⟨fr4, rfl, fw.trans f3, ?_⟩
      have e : (AV.ss (.cat (bL errW) (.var 1))).ev ρ3 = tV (errW ++ acc) := by
        show Value.string (⟨errW.toArray⟩ ++ ρ3.s 1) = _
        rw [s1, ba_app]; rfl
      rw [← e]; exact hL
  intro m
  induction m with
  | zero =>
    intro i acc w fr hi h2 ha fw hf
    exact fin i acc (by simp at hi; omega) (by omega) fw hf
  | succ m ih =>
    intro i acc w fr hi h2 ha fw hf
    by_cases h0 : i > 0
    · have ed : digF (m + 1) i acc = digF m (iop .quo .i64 i 10) (rn i ++ acc) := by rw [digF, if_pos h0]
      rw [ed]
      refine (pieceF (ρ := Go.Proofs.YtojifefdokekpaaDoor.SX.mkS [(4, i)] [] [] [(1, ⟨acc.toArray⟩)]) (eoGo (stOf fr)) rfl rfl (eoHLow _) (by kernel_rfl) (hf.rel (.inl rfl) [(3, ss 1), (4, i64 (v 4))] rfl rfl) (fun q hq => ?_) (fun q hq => by cases hq) List.nodup_nil).trans fun g1 w1 hd1 => ?_
      · obtain rfl := List.mem_singleton.1 hq
        show decide (i > 0) = true
        exact decide_eq_true h0
      obtain ⟨ρ1, fr1, rfl, f1, Ag1, F1, _⟩ := hd1
      have s1 : ρ1.s 1 = ⟨acc.toArray⟩ := congrFun Ag1.s 1
      have i4 : ρ1.i 4 = i := Ag1.i 4 (by decide)
      have F1' : FA 39 19 (eoC [4, 5, 6, 7]) [] .normal [(3, tV acc), (4, iV i), (13, .int .i32 (rnI i))] fr1 := by
        have e0 : [3, 4, 13].zip (AV.evs ρ1 [ss 1, i64 (v 4), .int .i32 rnE]) = [(3, tV acc), (4, iV i), (13, .int .i32 (rnI i))] := by
          show [(3, Value.string (ρ1.s 1)), (4, iV (ρ1.i 4)), (13, Value.int .i32 (IntKind.wrap .i32 (iop .add .i64 48 (iop .rem .i64 (ρ1.i 4) 10))))] = _
          rw [s1, i4]; rfl
        rw [← e0]; exact F1
      refine (op_pure (x := tV (rn i)) F1' eoIs eoG eoD (by decide) (fun tm htm => ?_)).trans fun g2 w2 hd2 => ?_
      · unfold execOp
        simp only [eoDo]
        rw [show (⟨tm, []⟩ : Act).eval (.tmp 13) = .int .i32 (rnI i) from htm (13, .int .i32 (rnI i)) (by simp)]
        simp only [convert, wq_bind, wq_underlying (under?_ok eoU1), wq_underlying (under?_ok eoU2), Conv.intToString, wq_pure]
        exact ⟨rfl, trivial⟩
      obtain ⟨fr2, rfl, rfl, F2⟩ := hd2
      have F2' : FA 39 19 (eoC [5, 6, 7]) [] .normal [(3, tV acc), (4, iV i), (14, tV (rn i))] fr2 := F2.sub fun q hq => by
        simp only [List.mem_cons, List.not_mem_nil, or_false] at hq
        rcases hq with rfl | rfl | rfl
        · exact List.mem_cons_of_mem _ (List.mem_filter.2 ⟨List.mem_of_getElem? (i := 0) rfl, rfl⟩)
        · exact List.mem_cons_of_mem _ (List.mem_filter.2 ⟨List.mem_of_getElem? (i := 1) rfl, rfl⟩)
        · exact List.mem_cons_self ..
      have hr := rn_len i
      refine (pieceF (ρ := Go.Proofs.YtojifefdokekpaaDoor.SX.mkS [(4, i)] [] [] [(1, ⟨acc.toArray⟩), (3, ⟨(rn i).toArray⟩)]) (eoGo2 (stOf fr2)) rfl rfl (eoGo2Low _) (by kernel_rfl) (F2'.rel (.inl rfl) [(3, ss 1), (4, i64 (v 4)), (14, ss 3)] rfl rfl) (fun q hq => by
        obtain rfl := List.mem_singleton.1 hq
        exact lc_ok (x := rn i) (y := acc) rfl rfl (by omega)) (fun q hq => by cases hq) List.nodup_nil).trans fun g3 w3 hd3 => ?_
      obtain ⟨ρ3, fr3, rfl, f3, Ag3, F3, _⟩ := hd3
      have t1 : ρ3.s 1 = ⟨acc.toArray⟩ := congrFun Ag3.s 1
      have t3 : ρ3.s 3 = ⟨(rn i).toArray⟩ := congrFun Ag3.s 3
      have j4 : ρ3.i 4 = i := Ag3.i 4 (by decide)
      have hq : iop .quo .i64 i 10 = i.tdiv 10 := wrapN (by
        have h1 : i.tdiv 10 = i / 10 := Int.tdiv_eq_ediv_of_nonneg (by omega)
        rw [h1]; omega)
      refine ih (iop .quo .i64 i 10) (rn i ++ acc) ?_ ?_ ?_ (fw.trans (f1.trans f3)) ?_
      · rw [hq, Int.tdiv_eq_ediv_of_nonneg (by omega)]
        rw [Int.pow_succ] at hi
        omega
      · rw [hq, Int.tdiv_eq_ediv_of_nonneg (by omega)]
        omega
      · rw [List.length_append]; omega
      · have e0 : [3, 4].zip (AV.evs ρ3 [.ss (.cat (.var 3) (.var 1)), i64 (.op .quo .i64 (v 4) (.lit 10))]) = [(3, tV (rn i ++ acc)), (4, iV (iop .quo .i64 i 10))] := by
          show [(3, Value.string (ρ3.s 3 ++ ρ3.s 1)), (4, iV (iop .quo .i64 (ρ3.i 4) 10))] = _
          rw [t1, t3, j4, ba_app]; rfl
        rw [← e0]; exact F3
    · have ed : digF (m + 1) i acc = acc := by rw [digF, if_neg h0]
      rw [ed]
      exact fin i acc h0 (by omega) fw hf
theorem errno_all (hn : I64 n) : Ans 39 #[iV n] w fun v w' => Fresh w w' ∧ v = tV (errT n) := by
  refine ans_of fun cs => ?_
  refine (pieceF (ρ := mkE [(2, n)] [] []) (eoIn (stOf _)) rfl rfl (eoInLow _) (by kernel_rfl) ((enter1 ent39 rfl (iV n)).rel (.inl rfl) [(0, i64 (v 2))] rfl rfl) (fun q hq => by cases hq) (fun q hq => by cases hq) List.nodup_nil).trans fun g1 w1 hd => ?_
  obtain ⟨ρ', fr1, rfl, f1, Ag, F1, _⟩ := hd
  have i2 : ρ'.i 2 = n := Ag.i 2 (by decide)
  have F1' : FA 39 19 eoT [] .normal [(3, tV []), (4, iV n)] fr1 := by rw [← i2]; exact F1
  have hlt : n < 10 ^ 20 := by
    have := hn.2
    have e : (10 : Int) ^ 20 = 100000000000000000000 := by decide
    rw [e]; omega
  refine (eo_loop 20 n [] hlt hn.2 (by simp) f1 F1').mono fun g2 w2 hd2 => ?_
  obtain ⟨fr2, rfl, f2, hL⟩ := hd2
  exact ⟨fr2, _, rfl, hL, f2, rfl⟩
end
end Go.Proofs.YtojifefdokekpaaDoor
set_option maxRecDepth 100000
set_option linter.unusedVariables false
set_option linter.unusedSimpArgs false
namespace Go.Proofs.YtojifefdokekpaaDoor
open Go.Proofs.YtojifefdokekpaaDoor.SX Go.Conc
def colT : List UInt8 := [58, 32]
def baseT : Nat → Int → List UInt8
  | 1, n => erW 1 ++ [32] ++ Lib.itoa n
  | 2, n => erW 2 ++ [32] ++ Lib.itoa n
  | 3, n => erW 3 ++ [32] ++ Lib.itoa n
  | 4, _ => panicT
  | 5, _ => plainT
  | 6, n => Lib.itoa n ++ colT
  | 7, n => errT n
  | _, _ => []
def preT (l : List Int) : List UInt8 := (l.map fun x => Lib.itoa x ++ colT).flatten
def txt (l : List Int) (k : Nat) (n : Int) : List UInt8 := preT l ++ baseT k n
theorem preT_cons (x : Int) (l : List Int) : preT (x :: l) = Lib.itoa x ++ colT ++ preT l := by simp [preT]
theorem preT_app (l l' : List Int) : preT (l ++ l') = preT l ++ preT l' := by simp [preT]
theorem preT_len : ∀ {l : List Int}, (∀ x ∈ l, I64 x) → (preT l).length ≤ 23 * l.length
  | [], _ => by simp [preT]
  | x :: l, h => by
    have h1 := itoa_len (h x (List.mem_cons_self ..))
    have h2 := preT_len fun y hy => h y (List.mem_cons_of_mem _ hy)
    rw [preT_cons, List.length_append, List.length_append, List.length_cons]
    simp only [colT, List.length_cons, List.length_nil]
    omega
theorem baseT_len {k : Nat} {n : Int} (hn : I64 n) : (baseT k n).length ≤ 100 := by
  have h1 := itoa_len hn
  have h2 := errT_len n
  unfold baseT
  split
  all_goals first | exact h2 | (simp [erW, colT, panicT, plainT]; done) | (simp [erW, colT]; omega)
theorem txt_len {l : List Int} {k : Nat} {n : Int} (h : ∀ x ∈ l, I64 x) (hn : I64 n) : (txt l k n).length ≤ 23 * l.length + 100 := by
  have h1 := preT_len h
  have h2 := baseT_len (k := k) hn
  unfold txt
  rw [List.length_append]
  omega
def errF : Nat → Nat
  | 40 => 15
  | 41 => 16
  | 42 => 17
  | 43 => 18
  | 117 => 89
  | 44 => 19
  | _ => 39
def isErr (t : Nat) : Prop := t = 40 ∨ t = 41 ∨ t = 42 ∨ t = 43 ∨ t = 117 ∨ t = 44 ∨ t = 29
noncomputable def atQ (l : List Nat) : Code := pc (bodyOf Tryd.f19) l
noncomputable def atF (t : List Item) (l : List (Nat × AV)) (st : Nat → Value) : AFrame := ⟨19, 25, tmpsOf 25 st l, t, [], .run, .normal⟩
noncomputable def atC1 (l : List Nat) : List Item := [.inRegion (opsOf (atQ [1,1,0])) l, .code (atQ [1,1,1])]
noncomputable def atO2 : Array Oper := opsOf (atQ [1,1,1,0,1,0])
noncomputable def atC2 (l : List Nat) : List Item := [.inRegion atO2 l, .code (atQ [1,1,1,1])]
theorem atIn (st : Nat → Value) : seeF (runZ [] [(⟨.dyn 60, .lit 0⟩, i64 (v 2))] 18 [] (cfg (atF [.code (bodyOf Tryd.f19)] [(0, ptr0 60)] st) [] [])) [0, 9] noL = some (⟨19, 25, atC1 [4, 5, 6], [], .run, .normal, [], [], [ptr0 60, i64 (v 2)]⟩, []) := by kernel_rfl
theorem atInLow (st : Nat → Value) : cfgLow 100 (cfg (atF [.code (bodyOf Tryd.f19)] [(0, ptr0 60)] st) [] []) = true := by kernel_rfl
theorem atNil (st : Nat → Value) : seeF (runZ [lc (.var 1) (bL colT)] [(⟨.dyn 60, .lit 1⟩, .nilIface)] 19 [] (cfg (atF (atC1 [5, 6]) [(0, ptr0 60), (10, ss 1)] st) [] [])) [2] noL = some (⟨19, 25, .code .ret :: [], [], .run, .normal, [], [], [.ss (.cat (.var 1) (bL colT))]⟩, []) := by kernel_rfl
theorem atMidLow (st : Nat → Value) : cfgLow 100 (cfg (atF (atC1 [5, 6]) [(0, ptr0 60), (10, ss 1)] st) [] []) = true := by kernel_rfl
theorem atMid (t : Nat) (st : Nat → Value) : seeF (runZ [lc (.var 1) (bL colT)] [(⟨.dyn 60, .lit 1⟩, .iface t (.opq 62))] 19 [] (cfg (atF (atC1 [5, 6]) [(0, ptr0 60), (10, ss 1)] st) [] [])) [17, 21] noL = some (⟨19, 25, atC2 [5, 6, 7], [], .run, .normal, [], [], [.ss (.cat (.var 1) (bL colT)), .iface t (.opq 62)]⟩, []) := by kernel_rfl
theorem atOut (st : Nat → Value) : seeF (runZ [lc (.var 4) (.var 3)] [] 8 [] (cfg (atF (atC2 [6, 7]) [(17, ss 4), (22, ss 3)] st) [] [])) [2] noL = some (⟨19, 25, .code .ret :: [], [], .run, .normal, [], [], [.ss (.cat (.var 4) (.var 3))]⟩, []) := by kernel_rfl
theorem atOutLow (st : Nat → Value) : cfgLow 100 (cfg (atF (atC2 [6, 7]) [(17, ss 4), (22, ss 3)] st) [] []) = true := by kernel_rfl
theorem atWant {t : Nat} (h : isErr t) (st : Nat → Value) : wantA [] [] (tmpsOf 25 st [(21, .iface t (.opq 50))]) atO2 5 = .ok true := by
  rcases h with rfl | rfl | rfl | rfl | rfl | rfl | rfl <;> kernel_rfl
theorem atOp {t : Nat} (h : isErr t) (st : Nat → Value) : opA [] [] (tmpsOf 25 st [(21, .iface t (.opq 50))]) atO2 5 = .ok (.enter (errF t) [.opq 50], hN) := by
  rcases h with rfl | rfl | rfl | rfl | rfl | rfl | rfl <;> kernel_rfl
theorem ent19 : enterA Tryd.prog 19 [.opq 0] .normal = .ok ⟨19, 25, entT 19 [.opq 0], [.code (bodyOf Tryd.f19)], [], .run, .normal⟩ := by kernel_rfl
section
variable {w : World} {cs : List Frame} {fr : Frame} {e : Value} {k : Nat} {n : Int} {l : List Int}
theorem at_num {A : Nat} {x : Int} (hA : w.cell? ⟨A, 0, none⟩ = some (iV x)) (hx : I64 x) (ht : TabAt w) (hf : FA 19 25 [.code (bodyOf Tryd.f19)] [] .normal [(0, ptrV A)] fr) :
    Goes (G fr cs) w fun g' w' => ∃ fr', g' = G fr' cs ∧ Fresh w w' ∧ FA 19 25 (atC1 [5, 6]) [] .normal [(0, ptrV A), (10, tV (Lib.itoa x))] fr' := by
  refine (pieceF (ρ := mkE [(2, x)] [(60, A)] []) (atIn (stOf _)) rfl rfl (atInLow _) (by kernel_rfl) (hf.rel (.inl rfl) [(0, ptr0 60)] rfl rfl) (fun q hq => by cases hq) (fun q hq => by
    obtain rfl := List.mem_singleton.1 hq
    exact hA) List.nodup_nil).trans fun g1 w1 hd => ?_
  obtain ⟨ρ', fr1, rfl, f1, Ag, F1, _⟩ := hd
  have i2 : ρ'.i 2 = x := Ag.i 2 (by decide)
  have b60 : ρ'.b 60 = A := Ag.b 60 (by decide)
  have F1' : FA 19 25 (atC1 [4, 5, 6]) [] .normal [(0, ptrV A), (9, iV x)] fr1 := by rw [← i2, ← b60]; exact F1
  refine (op_call (ρ := mkE [] [] [(50, iV x)]) (lA := [(9, .opq 50)]) (bs := []) (mem := []) (f := 28) (args := [.opq 50]) (d := 10) (Q := fun v w' => Fresh w1 w' ∧ v = tV (Lib.itoa x)) F1' (fun q hq => List.mem_cons_of_mem _ hq) (fun st => by kernel_rfl) (fun st => by kernel_rfl) (fun st => by kernel_rfl) (fun p hp => by cases hp) (fun p hp => by cases hp) (by kernel_rfl) (by decide) rfl (fun w2 f2 => (itoa_all hx (ht.keep (f1.trans f2))).mono fun v w3 O => ⟨f2.trans O.1, O.2⟩)).mono fun g2 w2 hd2 => ?_
  obtain ⟨fr2, vv, rfl, ⟨f2, rfl⟩, F2⟩ := hd2
  exact ⟨fr2, rfl, f1.trans f2, F2.sub fun q hq => by
    simp only [List.mem_cons, List.not_mem_nil, or_false] at hq
    rcases hq with rfl | rfl
    · exact List.mem_cons_of_mem _ (List.mem_filter.2 ⟨List.mem_cons_self .., rfl⟩)
    · exact List.mem_cons_self ..⟩
theorem plain_utf8 : "plain".toUTF8 = ⟨plainT.toArray⟩ := by kernel_rfl
theorem err_all {w0 : World} (h : ErrAt w0 e l k n) (hk : k ≠ 0) (hl : ∀ x ∈ l, I64 x) (hn : I64 n) (hlen : l.length ≤ 1000000) : ∃ t p, e = .iface t p ∧ isErr t ∧ ∀ w, Fresh w0 w → TabAt w → Ans (errF t) #[p] w fun v w' => Fresh w w' ∧ v = tV (txt l k n) := by
  induction h with
  | nil n => exact (hk rfl).elim
  | failed A n h => exact ⟨40, _, rfl, by simp [isErr], fun w f ht => er_all (k := 1) (by omega) (f.cell h) hn ht⟩
  | cancelled A n h => exact ⟨41, _, rfl, by simp [isErr], fun w f ht => er_all (k := 2) (by omega) (f.cell h) hn ht⟩
  | late A n h => exact ⟨42, _, rfl, by simp [isErr], fun w f ht => er_all (k := 3) (by omega) (f.cell h) hn ht⟩
  | panic A n h => exact ⟨43, _, rfl, by simp [isErr], fun w f ht => panic_all⟩
  | plain A o n h => exact ⟨117, _, rfl, by simp [isErr], fun w f ht => (plain_all (f.cell h)).mono fun v w' hd => ⟨hd.1, by rw [hd.2, plain_utf8]; rfl⟩⟩
  | errno n => exact ⟨29, _, rfl, by simp [isErr], fun w f ht => errno_all hn⟩
  | at0 A n h h1 =>
    refine ⟨44, _, rfl, by simp [isErr], fun w f ht => ans_of fun cs => ?_⟩
    refine (at_num (f.cell h) hn ht (enter1 ent19 rfl (ptrV A))).trans fun g1 w1 hd => ?_
    obtain ⟨fr1, rfl, f1, F1⟩ := hd
    have hi := itoa_len hn
    refine (pieceF (ρ := Go.Proofs.YtojifefdokekpaaDoor.SX.mkS [] [(60, A)] [] [(1, ⟨(Lib.itoa n).toArray⟩)]) (atNil (stOf fr1)) rfl rfl (atMidLow _) (by kernel_rfl) (F1.rel (.inl rfl) [(0, ptr0 60), (10, ss 1)] rfl rfl) (fun q hq => by
      obtain rfl := List.mem_singleton.1 hq
      exact lc_ok (x := Lib.itoa n) (y := colT) rfl rfl (by simp only [colT, List.length_cons, List.length_nil]; omega)) (fun q hq => by
      obtain rfl := List.mem_singleton.1 hq
      exact (f.trans f1).cell h1) List.nodup_nil).trans fun g3 w3 hd3 => ?_
    obtain ⟨ρ3, fr3, rfl, f3, Ag3, F3, _⟩ := hd3
    have s1 : ρ3.s 1 = ⟨(Lib.itoa n).toArray⟩ := congrFun Ag3.s 1
    refine (leave_tmp (fun st => by kernel_rfl) F3 (List.mem_singleton.2 rfl)).mono fun g4 w4 hd4 => ?_
    obtain ⟨fr4, rfl, rfl, hL⟩ := hd4
    refine ⟨fr4, _, rfl, hL, f1.trans f3, ?_⟩
    show Value.string (ρ3.s 1 ++ ⟨colT.toArray⟩) = _
    rw [s1, ba_app]; rfl
  | at' A x e l k n h h1 hk' he ih =>
    obtain ⟨t, p, rfl, hT, next⟩ := ih hk' (fun y hy => hl y (List.mem_cons_of_mem _ hy)) hn (by simp only [List.length_cons] at hlen; omega)
    refine ⟨44, _, rfl, by simp [isErr], fun w f ht => ans_of fun cs => ?_⟩
    have hx := hl x (List.mem_cons_self ..)
    have hi := itoa_len hx
    have htx := txt_len (k := k) (fun y hy => hl y (List.mem_cons_of_mem _ hy)) hn
    simp only [List.length_cons] at hlen
    refine (at_num (f.cell h) hx ht (enter1 ent19 rfl (ptrV A))).trans fun g1 w1 hd => ?_
    obtain ⟨fr1, rfl, f1, F1⟩ := hd
    refine (pieceF (ρ := Go.Proofs.YtojifefdokekpaaDoor.SX.mkS [] [(60, A)] [(62, p)] [(1, ⟨(Lib.itoa x).toArray⟩)]) (atMid t (stOf fr1)) rfl rfl (atMidLow _) (by kernel_rfl) (F1.rel (.inl rfl) [(0, ptr0 60), (10, ss 1)] rfl rfl) (fun q hq => by
      obtain rfl := List.mem_singleton.1 hq
      exact lc_ok (x := Lib.itoa x) (y := colT) rfl rfl (by simp only [colT, List.length_cons, List.length_nil]; omega)) (fun q hq => by
      obtain rfl := List.mem_singleton.1 hq
      exact (f.trans f1).cell h1) List.nodup_nil).trans fun g3 w3 hd3 => ?_
    obtain ⟨ρ3, fr3, rfl, f3, Ag3, F3, _⟩ := hd3
    have s1 : ρ3.s 1 = ⟨(Lib.itoa x).toArray⟩ := congrFun Ag3.s 1
    have v62 : ρ3.v 62 = p := congrFun Ag3.v 62
    have F3' : FA 19 25 (atC2 [5, 6, 7]) [] .normal [(17, tV (Lib.itoa x ++ colT)), (21, .iface t p)] fr3 := by
      have e0 : [17, 21].zip (AV.evs ρ3 [.ss (.cat (.var 1) (bL colT)), .iface t (.opq 62)]) = [(17, tV (Lib.itoa x ++ colT)), (21, .iface t p)] := by
        show [(17, Value.string (ρ3.s 1 ++ ⟨colT.toArray⟩)), (21, Value.iface t (ρ3.v 62))] = _
        rw [s1, v62, ba_app]; rfl
      rw [← e0]; exact F3
    refine (op_call (ρ := mkE [] [] [(50, p)]) (lA := [(21, .iface t (.opq 50))]) (bs := []) (mem := []) (f := errF t) (args := [.opq 50]) (d := 22) (Q := fun v w' => Fresh w3 w' ∧ v = tV (txt l k n)) F3' (fun q hq => List.mem_cons_of_mem _ hq) (atWant hT) (atOp hT) (fun st => by kernel_rfl) (fun p hp => by cases hp) (fun p hp => by cases hp) (by kernel_rfl) (by decide) rfl (fun w2 f2 => (next w2 (f.trans (f1.trans (f3.trans f2))) (ht.keep (f1.trans (f3.trans f2)))).mono fun v w5 O => ⟨f2.trans O.1, O.2⟩)).trans fun g5 w5 hd5 => ?_
    obtain ⟨fr5, vv, rfl, ⟨f5, rfl⟩, F5⟩ := hd5
    have F5' : FA 19 25 (atC2 [6, 7]) [] .normal [(17, tV (Lib.itoa x ++ colT)), (22, tV (txt l k n))] fr5 := F5.sub fun q hq => by
      simp only [List.mem_cons, List.not_mem_nil, or_false] at hq
      rcases hq with rfl | rfl
      · exact List.mem_cons_of_mem _ (List.mem_filter.2 ⟨List.mem_cons_self .., rfl⟩)
      · exact List.mem_cons_self ..
    refine (pieceF (ρ := Go.Proofs.YtojifefdokekpaaDoor.SX.mkS [] [] [] [(4, ⟨(Lib.itoa x ++ colT).toArray⟩), (3, ⟨(txt l k n).toArray⟩)]) (atOut (stOf fr5)) rfl rfl (atOutLow _) (by kernel_rfl) (F5'.rel (.inl rfl) [(17, ss 4), (22, ss 3)] rfl rfl) (fun q hq => by
      obtain rfl := List.mem_singleton.1 hq
      exact lc_ok (x := Lib.itoa x ++ colT) (y := txt l k n) rfl rfl (by rw [List.length_append]; simp only [colT, List.length_cons, List.length_nil]; omega)) (fun q hq => by cases hq) List.nodup_nil).trans fun g6 w6 hd6 => ?_
    obtain ⟨ρ6, fr6, rfl, f6, Ag6, F6, _⟩ := hd6
    have u4 : ρ6.s 4 = ⟨(Lib.itoa x ++ colT).toArray⟩ := congrFun Ag6.s 4
    have u3 : ρ6.s 3 = ⟨(txt l k n).toArray⟩ := congrFun Ag6.s 3
    refine (leave_tmp (fun st => by kernel_rfl) F6 (List.mem_singleton.2 rfl)).mono fun g7 w7 hd7 => ?_
    obtain ⟨fr7, rfl, rfl, hL⟩ := hd7
    refine ⟨fr7, _, rfl, hL, f1.trans (f3.trans (f5.trans f6)), ?_⟩
    show Value.string (ρ6.s 4 ++ ρ6.s 3) = _
    rw [u4, u3, ba_app]
    show tV _ = tV _
    rw [txt, txt, preT_cons, List.append_assoc (Lib.itoa x ++ colT)]
end
end Go.Proofs.YtojifefdokekpaaDoor
set_option maxRecDepth 100000
set_option linter.unusedVariables false
set_option linter.unusedSimpArgs false
namespace Go.Proofs.YtojifefdokekpaaDoor
open Go.Proofs.YtojifefdokekpaaDoor.SX Go.Conc
noncomputable def btQ (l : List Nat) : Code := pc (bodyOf Tryd.f29) l
noncomputable def btF (t : List Item) (l : List (Nat × AV)) (st : Nat → Value) : AFrame := ⟨29, 38, tmpsOf 38 st l, t, [], .run, .normal⟩
def btP : Nat → List Nat
  | 1 => [1,0,1,0,1,0,0]
  | 2 => [1,0,1,0,1,1,1,0,0]
  | 3 => [1,0,1,0,1,1,1,1,1,0,0]
  | 6 => [1,0,1,0,1,1,1,1,1,1,1,1,1,1,1,0,0]
  | _ => [1,0,1,0,1,1,1,1,1,1,1,1,1,1,1,1,1,0,0]
noncomputable def btO (k : Nat) : Array Oper := opsOf (btQ (btP k))
noncomputable def btR : List Item := [.inBlock 0, .code (btQ [1,1])]
noncomputable def btT (k : Nat) (l : List Nat) : List Item := .inRegion (btO k) l :: .code .ret :: btR
def btN : Nat → Nat
  | 1 => 8 | 2 => 14 | 3 => 20 | 6 => 30 | _ => 36
def btD : Nat → Nat
  | 1 => 9 | 2 => 15 | 3 => 21 | 6 => 31 | _ => 37
def btS : Nat → Nat
  | 1 => 22 | 2 => 28 | 3 => 34 | 6 => 52 | _ => 58
def btK (k : Nat) : Prop := k = 1 ∨ k = 2 ∨ k = 3 ∨ k = 6 ∨ k = 7
def btL : Nat → List Nat
  | 7 => [3]
  | _ => [3, 4]
theorem btIn {k : Nat} (h : btK k) (st : Nat → Value) : seeF (runZ [] [] (btS k) [] (cfg (btF [.code (bodyOf Tryd.f29)] (rcE k) st) [] [])) [btN k] noL = some (⟨29, 38, btT k (2 :: btL k), [], .run, .normal, [], [], [i64 (v 2)]⟩, []) := by
  rcases h with rfl | rfl | rfl | rfl | rfl <;> kernel_rfl
theorem btInLow (k : Nat) (st : Nat → Value) : cfgLow 100 (cfg (btF [.code (bodyOf Tryd.f29)] (rcE k) st) [] []) = true := by kernel_rfl
def btB : Nat → List (BE × Bool)
  | 1 => [lc (bL (erW 1 ++ [32])) (.var 3)]
  | 2 => [lc (bL (erW 2 ++ [32])) (.var 3)]
  | 3 => [lc (bL (erW 3 ++ [32])) (.var 3)]
  | 6 => [lc (.var 3) (bL colT)]
  | _ => []
def btE : Nat → SE
  | 1 => .cat (bL (erW 1 ++ [32])) (.var 3)
  | 2 => .cat (bL (erW 2 ++ [32])) (.var 3)
  | 3 => .cat (bL (erW 3 ++ [32])) (.var 3)
  | 6 => .cat (.var 3) (bL colT)
  | _ => .var 3
def btM : Nat → Nat
  | 7 => 2
  | _ => 3
theorem btOut {k : Nat} (h : btK k) (st : Nat → Value) : seeF (runZ (btB k) [] (btM k) [] (cfg (btF (btT k (btL k)) [(btD k, ss 3)] st) [] [])) [2] noL = some (⟨29, 38, .code .ret :: btR, [], .run, .normal, [], [], [.ss (btE k)]⟩, []) := by
  rcases h with rfl | rfl | rfl | rfl | rfl <;> kernel_rfl
theorem btOutLow {k : Nat} (h : btK k) (st : Nat → Value) : cfgLow 100 (cfg (btF (btT k (btL k)) [(btD k, ss 3)] st) [] []) = true := by
  rcases h with rfl | rfl | rfl | rfl | rfl <;> kernel_rfl
theorem btO' {k : Nat} (h : btK k) : (OO (btB k) []).low 100 = true := by
  rcases h with rfl | rfl | rfl | rfl | rfl <;> kernel_rfl
def btC : Nat → Nat
  | 7 => 39
  | _ => 38
noncomputable def btA : Nat → List AV
  | 7 => [.opq 50]
  | _ => [.opq 50, i64 (.lit 10)]
theorem btWant {k : Nat} (h : btK k) (st : Nat → Value) : wantA [] [] (tmpsOf 38 st [(btN k, .opq 50)]) (btO k) 2 = .ok true := by
  rcases h with rfl | rfl | rfl | rfl | rfl <;> kernel_rfl
theorem btOp {k : Nat} (h : btK k) (st : Nat → Value) : opA [] [] (tmpsOf 38 st [(btN k, .opq 50)]) (btO k) 2 = .ok (.enter (btC k) (btA k), hN) := by
  rcases h with rfl | rfl | rfl | rfl | rfl <;> kernel_rfl
theorem btLowT {k : Nat} (h : btK k) (st : Nat → Value) : lowT [] [] (tmpsOf 38 st [(btN k, .opq 50)]) = true := by
  rcases h with rfl | rfl | rfl | rfl | rfl <;> kernel_rfl
theorem btDst {k : Nat} (h : btK k) : dstOf (btO k) 2 = some (btD k) := by
  rcases h with rfl | rfl | rfl | rfl | rfl <;> kernel_rfl
def btW : Nat → List UInt8
  | 4 => panicT
  | _ => plainT
def btX : Nat → Nat
  | 4 => 40
  | _ => 46
theorem btShut {k : Nat} (h : k = 4 ∨ k = 5) (st : Nat → Value) : seeF (runZ [] [] (btX k) [] (cfg ⟨29, 38, tmpsOf 38 st (rcE k), [.code (bodyOf Tryd.f29)], [], .run, .normal⟩ [] [])) [2] noL = some (⟨29, 38, .code .ret :: btR, [], .run, .normal, [], [], [.str ⟨(btW k).toArray⟩]⟩, []) := by
  rcases h with rfl | rfl <;> kernel_rfl
theorem ent29 : enterA Tryd.prog 29 [.opq 0] .normal = .ok ⟨29, 38, entT 29 [.opq 0], [.code (bodyOf Tryd.f29)], [], .run, .normal⟩ := by kernel_rfl
section
variable {w : World} {cs : List Frame} {fr : Frame} {s : Value} {k : Nat} {n : Int} {l : List Int}
def btT0 (k : Nat) (n : Int) : List UInt8 := if k = 7 then errT n else Lib.itoa n
theorem base_all (hk : 1 ≤ k ∧ k < 8) (hn : I64 n) (ht : TabAt w) : Ans 29 #[errV k n s] w fun v w' => Fresh w w' ∧ v = tV (baseT k n) := by
  by_cases h45 : k = 4 ∨ k = 5
  · refine (ansP (ρ := mkE [(2, n)] [] [(59, s)]) (lA := rcE k) (enter1 ent29 rfl (errV k n s)) rfl (btShut h45) (fun st => by kernel_rfl) (by kernel_rfl) (fun st => by kernel_rfl) (fun p hp => by cases hp) (fun p hp => by cases hp) List.nodup_nil).mono fun v w' hd => ?_
    obtain ⟨f1, ρ', Ag, rfl, _⟩ := hd
    refine ⟨f1, ?_⟩
    rcases h45 with rfl | rfl <;> rfl
  · have hK : btK k := by
      unfold btK
      omega
    refine ans_of fun cs => ?_
    refine (pieceF (ρ := mkE [(2, n)] [] [(59, s)]) (btIn hK (stOf _)) rfl rfl (btInLow k _) (by kernel_rfl) ((enter1 ent29 rfl (errV k n s)).rel (.inl rfl) (rcE k) rfl rfl) (fun q hq => by cases hq) (fun q hq => by cases hq) List.nodup_nil).trans fun g1 w1 hd => ?_
    obtain ⟨ρ', fr1, rfl, f1, Ag, F1, _⟩ := hd
    have i2 : ρ'.i 2 = n := Ag.i 2 (by decide)
    have F1' : FA 29 38 (btT k (2 :: btL k)) [] .normal [(btN k, iV n)] fr1 := by rw [← i2]; exact F1
    have hC : ∀ w2, Fresh w1 w2 → Ans (btC k) (AV.evs (mkE [] [] [(50, iV n)]) (btA k)).toArray w2 fun v w' => Fresh w1 w' ∧ v = tV (btT0 k n) := fun w2 f2 => by
      have key : ∀ {f : Nat} {args : Array Value} {x : List UInt8}, Ans f args w2 (fun v w' => Fresh w2 w' ∧ v = tV x) → Ans f args w2 (fun v w' => Fresh w1 w' ∧ v = tV x) := fun h => h.mono fun v w' O => ⟨f2.trans O.1, O.2⟩
      rcases hK with rfl | rfl | rfl | rfl | rfl
      · exact key (fmt_all hn (ht.keep (f1.trans f2)))
      · exact key (fmt_all hn (ht.keep (f1.trans f2)))
      · exact key (fmt_all hn (ht.keep (f1.trans f2)))
      · exact key (fmt_all hn (ht.keep (f1.trans f2)))
      · exact key (errno_all hn)
    refine (op_call (ρ := mkE [] [] [(50, iV n)]) (lA := [(btN k, .opq 50)]) (bs := []) (mem := []) (f := btC k) (args := btA k) (d := btD k) (Q := fun v w' => Fresh w1 w' ∧ v = tV (btT0 k n)) F1' (fun q hq => hq) (btWant hK) (btOp hK) (btLowT hK) (fun p hp => by cases hp) (fun p hp => by cases hp) (btDst hK) (by rcases hK with rfl | rfl | rfl | rfl | rfl <;> decide) (by rcases hK with rfl | rfl | rfl | rfl | rfl <;> rfl) hC).trans fun g2 w2 hd2 => ?_
    obtain ⟨fr2, vv, rfl, ⟨f2, rfl⟩, F2⟩ := hd2
    have F2' : FA 29 38 (btT k (btL k)) [] .normal [(btD k, tV (btT0 k n))] fr2 := F2.sub fun q hq => by
      obtain rfl := List.mem_singleton.1 hq
      exact List.mem_cons_self ..
    have hi := itoa_len hn
    refine (pieceF (ρ := Go.Proofs.YtojifefdokekpaaDoor.SX.mkS [] [] [] [(3, ⟨(btT0 k n).toArray⟩)]) (btOut hK (stOf fr2)) rfl rfl (btOutLow hK _) (btO' hK) (F2'.rel (.inl rfl) [(btD k, ss 3)] rfl rfl) (fun q hq => ?_) (fun q hq => by cases hq) List.nodup_nil).trans fun g3 w3 hd3 => ?_
    · rcases hK with rfl | rfl | rfl | rfl | rfl
      · obtain rfl := List.mem_singleton.1 hq
        exact lc_ok (x := erW 1 ++ [32]) (y := Lib.itoa n) rfl rfl (by simp only [erW, List.cons_append, List.nil_append, List.length_cons, List.length_nil]; omega)
      · obtain rfl := List.mem_singleton.1 hq
        exact lc_ok (x := erW 2 ++ [32]) (y := Lib.itoa n) rfl rfl (by simp only [erW, List.cons_append, List.nil_append, List.length_cons, List.length_nil]; omega)
      · obtain rfl := List.mem_singleton.1 hq
        exact lc_ok (x := erW 3 ++ [32]) (y := Lib.itoa n) rfl rfl (by simp only [erW, List.cons_append, List.nil_append, List.length_cons, List.length_nil]; omega)
      · obtain rfl := List.mem_singleton.1 hq
        exact lc_ok (x := Lib.itoa n) (y := colT) rfl rfl (by simp only [colT, List.length_cons, List.length_nil]; omega)
      · cases hq
    · obtain ⟨ρ3, fr3, rfl, f3, Ag3, F3, _⟩ := hd3
      have s3 : ρ3.s 3 = ⟨(btT0 k n).toArray⟩ := congrFun Ag3.s 3
      refine (leave_tmp (fun st => by kernel_rfl) F3 (List.mem_singleton.2 rfl)).mono fun g4 w4 hd4 => ?_
      obtain ⟨fr4, rfl, rfl, hL⟩ := hd4
      refine ⟨fr4, _, rfl, hL, (f1.trans f2).trans f3, ?_⟩
      show Value.string ((btE k).ev ρ3) = _
      rcases hK with rfl | rfl | rfl | rfl | rfl
      · show Value.string (⟨(erW 1 ++ [32]).toArray⟩ ++ ρ3.s 3) = _
        rw [s3, ba_app]; rfl
      · show Value.string (⟨(erW 2 ++ [32]).toArray⟩ ++ ρ3.s 3) = _
        rw [s3, ba_app]; rfl
      · show Value.string (⟨(erW 3 ++ [32]).toArray⟩ ++ ρ3.s 3) = _
        rw [s3, ba_app]; rfl
      · show Value.string (ρ3.s 3 ++ ⟨colT.toArray⟩) = _
        rw [s3, ba_app]; rfl
      · show Value.string (ρ3.s 3) = _
        rw [s3]; rfl
noncomputable def exQ (l : List Nat) : Code := pc (bodyOf Tryd.f11) l
noncomputable def exT : List Item := [.code (exQ [1,1,0,1,0,0]), .inLoop (exQ [1,1,0,1,0,0]), .inBlock 0, .code (exQ [1,1,1])]
noncomputable def exO : Array Oper := opsOf (exQ [1,1,0,1,0,0,1,0,0])
noncomputable def exC (l : List Nat) : List Item := [.inRegion exO l, .inBlock 1, .code (exQ [1,1,0,1,0,0,1,1]), .inLoop (exQ [1,1,0,1,0,0]), .inBlock 0, .code (exQ [1,1,1])]
noncomputable def exO2 : Array Oper := opsOf (exQ [1,1,1,0])
noncomputable def exC2 (l : List Nat) : List Item := [.inRegion exO2 l, .code .ret]
noncomputable def exF (t : List Item) (l : List (Nat × AV)) (st : Nat → Value) : AFrame := ⟨11, 29, tmpsOf 29 st l, t, [], .run, .normal⟩
noncomputable def exA (z : Bool) : AV := .agg [i64 (v 1), i64 (v 2), mkS z]
noncomputable def exB (z : Bool) : ABlk := .cells [i64 (v 1), i64 (v 2), mkS z] 24
theorem exIn (z : Bool) (st : Nat → Value) : seeF (runZ [] [] 16 [100] (cfg (exF [.code (bodyOf Tryd.f11)] [(0, exA z)] st) [] [])) [1, 3, 4] noL = some (⟨11, 29, exT, [], .run, .normal, [], [(100, exB z)], [ptr0 100, .str ⟨#[]⟩, i64 (.lit 0)]⟩, []) := by cases z <;> kernel_rfl
theorem exInLow (z : Bool) (st : Nat → Value) : cfgLow 100 (cfg (exF [.code (bodyOf Tryd.f11)] [(0, exA z)] st) [] []) = true := by cases z <;> kernel_rfl
noncomputable def exM (z : Bool) : List (AA × AV) := [(⟨.dyn 61, .lit 0⟩, i64 (v 1)), (⟨.dyn 61, .lit 1⟩, i64 (v 2)), (⟨.dyn 61, .lit 2⟩, mkS z)]
noncomputable def exH (st : Nat → Value) : AFrame := exF exT [(1, ptr0 61), (3, ss 1), (4, i64 (v 4))] st
theorem exHLow (st : Nat → Value) : cfgLow 100 (cfg (exH st) [] []) = true := by kernel_rfl
theorem exGo (st : Nat → Value) : seeF (runZ (ltB 4 51 ++ [(.cmp .neq (v 1) (.lit 0), true)]) (exM false ++ [(brk 50 53 4, i64 (v 5))]) 38 [] (cfg (exH st) [] [])) [1, 4, 16, 21] noL = some (⟨11, 29, exC [6, 7, 8, 9], [], .run, .normal, [], [], [ptr0 61, i64 (v 4), ss 1, i64 (v 5)]⟩, []) := by kernel_rfl
theorem exGo2 (st : Nat → Value) : seeF (runZ [lc (.var 1) (.var 3), lc (.cat (.var 1) (.var 3)) (bL colT)] [] 11 [] (cfg (exF (exC [7, 8, 9]) [(1, ptr0 61), (4, i64 (v 4)), (16, ss 1), (22, ss 3)] st) [] [])) [1, 3, 4] noL = some (⟨11, 29, exT, [], .run, .normal, [], [], [ptr0 61, .ss (.cat (.cat (.var 1) (.var 3)) (bL colT)), i64 (.op .add .i64 (v 4) (.lit 1))]⟩, []) := by kernel_rfl
theorem exGo2Low (st : Nat → Value) : cfgLow 100 (cfg (exF (exC [7, 8, 9]) [(1, ptr0 61), (4, i64 (v 4)), (16, ss 1), (22, ss 3)] st) [] []) = true := by kernel_rfl
noncomputable def exN : Bool → IE
  | false => .tn (v 51)
  | true => .lit 0
theorem exEnd (z : Bool) (st : Nat → Value) : seeF (runZ [(.cmp .lss (v 4) (exN z), false)] (exM z) 19 [] (cfg (exH st) [] [])) [25, 26] noL = some (⟨11, 29, exC2 [2, 3, 4], [], .run, .normal, [], [], [ss 1, exA z]⟩, []) := by cases z <;> kernel_rfl
theorem exOut (st : Nat → Value) : seeF (runZ [lc (.var 1) (.var 3)] [] 3 [] (cfg (exF (exC2 [3, 4]) [(25, ss 1), (27, ss 3)] st) [] [])) [2] noL = some (⟨11, 29, .code .ret :: [], [], .run, .normal, [], [], [.ss (.cat (.var 1) (.var 3))]⟩, []) := by kernel_rfl
theorem exOutLow (st : Nat → Value) : cfgLow 100 (cfg (exF (exC2 [3, 4]) [(25, ss 1), (27, ss 3)] st) [] []) = true := by kernel_rfl
theorem ent11 : enterA Tryd.prog 11 [.opq 0] .normal = .ok ⟨11, 29, entT 11 [.opq 0], [.code (bodyOf Tryd.f11)], [], .run, .normal⟩ := by kernel_rfl
end
end Go.Proofs.YtojifefdokekpaaDoor
set_option maxRecDepth 100000
set_option linter.unusedVariables false
set_option linter.unusedSimpArgs false
namespace Go.Proofs.YtojifefdokekpaaDoor
open Go.Proofs.YtojifefdokekpaaDoor.SX Go.Conc
section
variable {w : World} {cs : List Frame} {fr : Frame} {s : Value} {k : Nat} {n : Int} {l : List Int}
structure ExMem (w : World) (X k : Nat) (n : Int) (s : Value) : Prop where
  c0 : w.cell? ⟨X, 0, none⟩ = some (iV k)
  c1 : w.cell? ⟨X, 1, none⟩ = some (iV n)
  c2 : w.cell? ⟨X, 2, none⟩ = some s
theorem ExMem.keep {w' : World} {X : Nat} (M : ExMem w X k n s) (f : Fresh w w') : ExMem w' X k n s := ⟨f.cell M.c0, f.cell M.c1, f.cell M.c2⟩
theorem ex_mem {X A o c : Nat} {z : Bool} {ρ : Env} (M : ExMem w X k n (hdV z A o l.length c)) (h61 : ρ.b 61 = X) (h1 : ρ.i 1 = k) (h2 : ρ.i 2 = n) (hs : (mkS z).ev ρ = hdV z A o l.length c) : ∀ p ∈ exM z, w.cell? (p.1.ev ρ) = some (p.2.ev ρ) := by
  intro p hp
  simp only [exM, List.mem_cons, List.not_mem_nil, or_false] at hp
  rcases hp with rfl | rfl | rfl
  · show w.cell? ⟨ρ.b 61, 0, none⟩ = some (iV (ρ.i 1))
    rw [h61, h1]; exact M.c0
  · show w.cell? ⟨ρ.b 61, 1, none⟩ = some (iV (ρ.i 2))
    rw [h61, h2]; exact M.c1
  · show w.cell? ⟨ρ.b 61, 2, none⟩ = some ((mkS z).ev ρ)
    rw [h61, hs]; exact M.c2
theorem ex_end {w0 : World} {X A o c i : Nat} {z : Bool} (hz : z = true → l = []) (M : ExMem w X k n (hdV z A o l.length c)) (hi : i = l.length) (hk : 1 ≤ k ∧ k < 8) (hl : ∀ x ∈ l, I64 x) (hn : I64 n) (hlen : l.length ≤ 1000000) (fw : Fresh w0 w) (ht : TabAt w) (hf : FA 11 29 exT [] .normal [(1, ptrV X), (3, tV (preT l)), (4, iV i)] fr) :
    Goes (G fr cs) w fun g' w' => ∃ fr', g' = G fr' cs ∧ Fresh w0 w' ∧ Leav 11 fr' w' (tV (txt l k n)) := by
  obtain ⟨ρ, hρ⟩ : ∃ ρ : Env, ρ = Go.Proofs.YtojifefdokekpaaDoor.SX.mkS [(1, k), (2, n), (4, i), (51, l.length), (52, c), (53, o)] [(50, A), (61, X)] [] [(1, ⟨(preT l).toArray⟩)] := ⟨_, rfl⟩
  have es : (mkS z).ev ρ = hdV z A o l.length c := by rw [hρ]; cases z <;> rfl
  refine (pieceF (ρ := ρ) (exEnd z (stOf fr)) rfl rfl (exHLow _) (by cases z <;> kernel_rfl) (hf.rel (.inl rfl) [(1, ptr0 61), (3, ss 1), (4, i64 (v 4))] (by rw [hρ]; rfl) rfl) (fun q hq => ?_) (ex_mem M (by rw [hρ]; rfl) (by rw [hρ]; rfl) (by rw [hρ]; rfl) es) List.nodup_nil).trans fun g1 w1 hd => ?_
  · obtain rfl := List.mem_singleton.1 hq
    have e4 : ρ.i 4 = (i : Int) := by rw [hρ]; rfl
    have e51 : ρ.i 51 = (l.length : Int) := by rw [hρ]; rfl
    cases z with
    | false =>
      show decide (ρ.i 4 < (((ρ.i 51).toNat : Nat) : Int)) = false
      rw [e4, e51]; exact decide_eq_false (by omega)
    | true =>
      show decide (ρ.i 4 < 0) = false
      rw [e4]; exact decide_eq_false (by omega)
  obtain ⟨ρ1, fr1, rfl, f1, Ag, F1, _⟩ := hd
  have F1' : FA 11 29 (exC2 [2, 3, 4]) [] .normal [(25, tV (preT l)), (26, errV k n (hdV z A o l.length c))] fr1 := by
    have s1 : ρ1.s 1 = ⟨(preT l).toArray⟩ := (congrFun Ag.s 1).trans (by rw [hρ]; rfl)
    have i1 : ρ1.i 1 = k := (Ag.i 1 (by decide)).trans (by rw [hρ]; rfl)
    have i2 : ρ1.i 2 = n := (Ag.i 2 (by decide)).trans (by rw [hρ]; rfl)
    have es1 : (mkS z).ev ρ1 = hdV z A o l.length c := by rw [AV.ev_agree Ag (mkS z) (by cases z <;> exact AV.low_in _ (by kernel_rfl)), es]
    have e0 : [25, 26].zip (AV.evs ρ1 [ss 1, exA z]) = [(25, tV (preT l)), (26, errV k n (hdV z A o l.length c))] := by
      show [(25, Value.string (ρ1.s 1)), (26, Value.agg #[iV (ρ1.i 1), iV (ρ1.i 2), (mkS z).ev ρ1])] = _
      rw [s1, i1, i2, es1]; rfl
    rw [← e0]; exact F1
  refine (op_call (ρ := mkE [] [] [(50, errV k n (hdV z A o l.length c))]) (lA := [(26, .opq 50)]) (bs := []) (mem := []) (f := 29) (args := [.opq 50]) (d := 27) (Q := fun v w' => Fresh w1 w' ∧ v = tV (baseT k n)) F1' (fun q hq => List.mem_cons_of_mem _ hq) (fun st => by kernel_rfl) (fun st => by kernel_rfl) (fun st => by kernel_rfl) (fun p hp => by cases hp) (fun p hp => by cases hp) (by kernel_rfl) (by decide) rfl (fun w2 f2 => (base_all hk hn (ht.keep (f1.trans f2))).mono fun v w3 O => ⟨f2.trans O.1, O.2⟩)).trans fun g2 w2 hd2 => ?_
  obtain ⟨fr2, vv, rfl, ⟨f2, rfl⟩, F2⟩ := hd2
  have F2' : FA 11 29 (exC2 [3, 4]) [] .normal [(25, tV (preT l)), (27, tV (baseT k n))] fr2 := F2.sub fun q hq => by
    simp only [List.mem_cons, List.not_mem_nil, or_false] at hq
    rcases hq with rfl | rfl
    · exact List.mem_cons_of_mem _ (List.mem_filter.2 ⟨List.mem_cons_self .., rfl⟩)
    · exact List.mem_cons_self ..
  have hp := preT_len hl
  have hb := baseT_len (k := k) hn
  refine (pieceF (ρ := Go.Proofs.YtojifefdokekpaaDoor.SX.mkS [] [] [] [(1, ⟨(preT l).toArray⟩), (3, ⟨(baseT k n).toArray⟩)]) (exOut (stOf fr2)) rfl rfl (exOutLow _) (by kernel_rfl) (F2'.rel (.inl rfl) [(25, ss 1), (27, ss 3)] rfl rfl) (fun q hq => by
    obtain rfl := List.mem_singleton.1 hq
    exact lc_ok (x := preT l) (y := baseT k n) rfl rfl (by omega)) (fun q hq => by cases hq) List.nodup_nil).trans fun g3 w3 hd3 => ?_
  obtain ⟨ρ3, fr3, rfl, f3, Ag3, F3, _⟩ := hd3
  have u1 : ρ3.s 1 = ⟨(preT l).toArray⟩ := congrFun Ag3.s 1
  have u3 : ρ3.s 3 = ⟨(baseT k n).toArray⟩ := congrFun Ag3.s 3
  refine (leave_tmp (fun st => by kernel_rfl) F3 (List.mem_singleton.2 rfl)).mono fun g4 w4 hd4 => ?_
  obtain ⟨fr4, rfl, rfl, hL⟩ := hd4
  refine ⟨fr4, rfl, fw.trans (f1.trans (f2.trans f3)), ?_⟩
  have e : (AV.ss (.cat (.var 1) (.var 3))).ev ρ3 = tV (txt l k n) := by
    show Value.string (ρ3.s 1 ++ ρ3.s 3) = _
    rw [u1, u3, ba_app]; rfl
  rw [← e]; exact hL
theorem ex_round {w0 : World} {X A o c i : Nat} {x : Int} (hel : ∀ i n, l[i]? = some n → w.cell? ⟨A, o + i, none⟩ = some (iV n)) (M : ExMem w X k n (hdV false A o l.length c)) (hx : l[i]? = some x) (hk : 1 ≤ k ∧ k < 8) (hl : ∀ x ∈ l, I64 x) (hlen : l.length ≤ 1000000) (fw : Fresh w0 w) (ht : TabAt w) (hf : FA 11 29 exT [] .normal [(1, ptrV X), (3, tV (preT (l.take i))), (4, iV i)] fr) :
    Goes (G fr cs) w fun g' w' => ∃ fr', g' = G fr' cs ∧ Fresh w w' ∧ FA 11 29 exT [] .normal [(1, ptrV X), (3, tV (preT (l.take (i + 1)))), (4, iV ((i + 1 : Nat) : Int))] fr' := by
  obtain ⟨acc, hacc⟩ : ∃ acc, acc = preT (l.take i) := ⟨_, rfl⟩
  have hil : i < l.length := (List.getElem?_eq_some_iff.1 hx).1
  have hal : acc.length ≤ 23000000 := by
    have h1 := preT_len (l := l.take i) fun y hy => hl y (List.mem_of_mem_take hy)
    rw [List.length_take] at h1
    rw [hacc]
    have : min i l.length ≤ 1000000 := by omega
    omega
  have hX : I64 x := hl x (List.mem_of_getElem? hx)
  have hil2 := itoa_len hX
  rw [← hacc] at hf
  obtain ⟨ρ, hρ⟩ : ∃ ρ : Env, ρ = Go.Proofs.YtojifefdokekpaaDoor.SX.mkS [(1, k), (2, n), (4, i), (5, x), (51, l.length), (52, c), (53, o)] [(50, A), (61, X)] [] [(1, ⟨acc.toArray⟩)] := ⟨_, rfl⟩
  refine (pieceF (ρ := ρ) (exGo (stOf fr)) rfl rfl (exHLow _) (by kernel_rfl) (hf.rel (.inl rfl) [(1, ptr0 61), (3, ss 1), (4, i64 (v 4))] (by rw [hρ]; rfl) rfl) (fun q hq => ?_) (fun q hq => ?_) List.nodup_nil).trans fun g1 w1 hd => ?_
  · rcases List.mem_append.1 hq with hq | hq
    · exact ltB_ok (I := i) (N := l.length) (by rw [hρ]; rfl) (by rw [hρ]; rfl) hil q hq
    · obtain rfl := List.mem_singleton.1 hq
      have e1 : ρ.i 1 = (k : Int) := by rw [hρ]; rfl
      show (!decide (ρ.i 1 = 0)) = true
      rw [e1]
      simp; omega
  · rcases List.mem_append.1 hq with hq | hq
    · exact ex_mem M (by rw [hρ]; rfl) (by rw [hρ]; rfl) (by rw [hρ]; rfl) (by rw [hρ]; rfl) q hq
    · obtain rfl := List.mem_singleton.1 hq
      rw [brk_ev (O := o) (I := i) (by rw [hρ]; rfl) (by rw [hρ]; rfl)]
      have := hel i x hx
      rw [hρ]; exact this
  obtain ⟨ρ1, fr1, rfl, f1, Ag, F1, _⟩ := hd
  have F1' : FA 11 29 (exC [6, 7, 8, 9]) [] .normal [(1, ptrV X), (4, iV i), (16, tV acc), (21, iV x)] fr1 := by
    have s1 : ρ1.s 1 = ⟨acc.toArray⟩ := (congrFun Ag.s 1).trans (by rw [hρ]; rfl)
    have i4 : ρ1.i 4 = i := (Ag.i 4 (by decide)).trans (by rw [hρ]; rfl)
    have i5 : ρ1.i 5 = x := (Ag.i 5 (by decide)).trans (by rw [hρ]; rfl)
    have b61 : ρ1.b 61 = X := (Ag.b 61 (by decide)).trans (by rw [hρ]; rfl)
    have e0 : [1, 4, 16, 21].zip (AV.evs ρ1 [ptr0 61, i64 (v 4), ss 1, i64 (v 5)]) = [(1, ptrV X), (4, iV i), (16, tV acc), (21, iV x)] := by
      show [(1, ptrV (ρ1.b 61)), (4, iV (ρ1.i 4)), (16, Value.string (ρ1.s 1)), (21, iV (ρ1.i 5))] = _
      rw [s1, i4, i5, b61]; rfl
    rw [← e0]; exact F1
  refine (op_call (ρ := mkE [] [] [(50, iV x)]) (lA := [(21, .opq 50)]) (bs := []) (mem := []) (f := 28) (args := [.opq 50]) (d := 22) (Q := fun v w' => Fresh w1 w' ∧ v = tV (Lib.itoa x)) F1' (fun q hq => List.mem_of_getElem? (i := 3) (by rw [List.mem_singleton.1 hq]; rfl)) (fun st => by kernel_rfl) (fun st => by kernel_rfl) (fun st => by kernel_rfl) (fun p hp => by cases hp) (fun p hp => by cases hp) (by kernel_rfl) (by decide) rfl (fun w2 f2 => (itoa_all hX (ht.keep (f1.trans f2))).mono fun v w3 O => ⟨f2.trans O.1, O.2⟩)).trans fun g2 w2 hd2 => ?_
  obtain ⟨fr2, vv, rfl, ⟨f2, rfl⟩, F2⟩ := hd2
  have F2' : FA 11 29 (exC [7, 8, 9]) [] .normal [(1, ptrV X), (4, iV i), (16, tV acc), (22, tV (Lib.itoa x))] fr2 := F2.sub fun q hq => by
    simp only [List.mem_cons, List.not_mem_nil, or_false] at hq
    rcases hq with rfl | rfl | rfl | rfl
    · exact List.mem_cons_of_mem _ (List.mem_filter.2 ⟨List.mem_of_getElem? (i := 0) rfl, rfl⟩)
    · exact List.mem_cons_of_mem _ (List.mem_filter.2 ⟨List.mem_of_getElem? (i := 1) rfl, rfl⟩)
    · exact List.mem_cons_of_mem _ (List.mem_filter.2 ⟨List.mem_of_getElem? (i := 2) rfl, rfl⟩)
    · exact List.mem_cons_self ..
  refine (pieceF (ρ := Go.Proofs.YtojifefdokekpaaDoor.SX.mkS [(4, i)] [(61, X)] [] [(1, ⟨acc.toArray⟩), (3, ⟨(Lib.itoa x).toArray⟩)]) (exGo2 (stOf fr2)) rfl rfl (exGo2Low _) (by kernel_rfl) (F2'.rel (.inl rfl) [(1, ptr0 61), (4, i64 (v 4)), (16, ss 1), (22, ss 3)] rfl rfl) (fun q hq => ?_) (fun q hq => by cases hq) List.nodup_nil).mono fun g3 w3 hd3 => ?_
  · simp only [List.mem_cons, List.not_mem_nil, or_false] at hq
    rcases hq with rfl | rfl
    · exact lc_ok (x := acc) (y := Lib.itoa x) rfl rfl (by omega)
    · refine lc_ok (x := acc ++ Lib.itoa x) (y := colT) ?_ rfl (by rw [List.length_append]; simp only [colT, List.length_cons, List.length_nil]; omega)
      show (⟨acc.toArray⟩ : ByteArray) ++ ⟨(Lib.itoa x).toArray⟩ = _
      rw [ba_app]
  obtain ⟨ρ3, fr3, rfl, f3, Ag3, F3, _⟩ := hd3
  have u1 : ρ3.s 1 = ⟨acc.toArray⟩ := congrFun Ag3.s 1
  have u3 : ρ3.s 3 = ⟨(Lib.itoa x).toArray⟩ := congrFun Ag3.s 3
  have j4 : ρ3.i 4 = i := Ag3.i 4 (by decide)
  have b61 : ρ3.b 61 = X := Ag3.b 61 (by decide)
  refine ⟨fr3, rfl, f1.trans (f2.trans f3), ?_⟩
  have ep : preT (l.take (i + 1)) = acc ++ Lib.itoa x ++ colT := by
    rw [List.take_add_one, hx, preT_app, ← hacc]
    simp [preT]
  have e0 : [1, 3, 4].zip (AV.evs ρ3 [ptr0 61, .ss (.cat (.cat (.var 1) (.var 3)) (bL colT)), i64 (.op .add .i64 (v 4) (.lit 1))]) = [(1, ptrV X), (3, tV (preT (l.take (i + 1)))), (4, iV ((i + 1 : Nat) : Int))] := by
    show [(1, ptrV (ρ3.b 61)), (3, Value.string (ρ3.s 1 ++ ρ3.s 3 ++ ⟨colT.toArray⟩)), (4, iV (iop .add .i64 (ρ3.i 4) 1))] = _
    rw [u1, u3, j4, b61, inc (by omega), ba_app, ba_app, ep]; rfl
  rw [← e0]; exact F3
theorem ex_loop {w0 : World} {X A o c : Nat} {z : Bool} (hz : z = true → l = []) (hel : ∀ i n, l[i]? = some n → w0.cell? ⟨A, o + i, none⟩ = some (iV n)) (M : ExMem w0 X k n (hdV z A o l.length c)) (hk : 1 ≤ k ∧ k < 8) (hl : ∀ x ∈ l, I64 x) (hn : I64 n) (hlen : l.length ≤ 1000000) (ht : TabAt w0) : ∀ (m i : Nat) {w : World} {fr : Frame}, i + m = l.length → Fresh w0 w → FA 11 29 exT [] .normal [(1, ptrV X), (3, tV (preT (l.take i))), (4, iV i)] fr →
    Goes (G fr cs) w fun g' w' => ∃ fr', g' = G fr' cs ∧ Fresh w0 w' ∧ Leav 11 fr' w' (tV (txt l k n))
  | 0, i, w, fr, him, fw, hf => by
    rw [List.take_of_length_le (by omega)] at hf
    exact ex_end hz (M.keep fw) (by omega) hk hl hn hlen fw (ht.keep fw) hf
  | m + 1, i, w, fr, him, fw, hf => by
    obtain rfl : z = false := by
      cases z with
      | false => rfl
      | true => rw [hz rfl] at him; simp at him
    have hx : l[i]? = some l[i] := List.getElem?_eq_getElem (by omega)
    refine (ex_round (w0 := w0) (fun j y hj => fw.cell (hel j y hj)) (M.keep fw) hx hk hl hlen fw (ht.keep fw) hf).trans fun g1 w1 hd => ?_
    obtain ⟨fr1, rfl, f1, F1⟩ := hd
    exact ex_loop hz hel M hk hl hn hlen ht m (i + 1) (by omega) (fw.trans f1) F1
theorem text_all (hk : 1 ≤ k ∧ k < 8) (h : NumsAt w s l) (hl : ∀ x ∈ l, I64 x) (hn : I64 n) (hlen : l.length ≤ 1000000) (ht : TabAt w) : Ans 11 #[errV k n s] w fun v w' => Fresh w w' ∧ v = tV (txt l k n) := by
  refine ans_of fun cs => ?_
  obtain ⟨z, A, o, c, rfl, hz, _, hel⟩ := nums_form h
  obtain ⟨ρ, hρ⟩ : ∃ ρ : Env, ρ = mkE [(1, k), (2, n), (51, l.length), (52, c), (53, o)] [(50, A)] [] := ⟨_, rfl⟩
  have es : (mkS z).ev ρ = hdV z A o l.length c := by rw [hρ]; cases z <;> rfl
  refine (pieceF (ρ := ρ) (exIn z (stOf _)) rfl rfl (exInLow z _) (by kernel_rfl) ((enter1 ent11 rfl (errV k n (hdV z A o l.length c))).rel (.inl rfl) [(0, exA z)] (by
    show [(0, Value.agg #[iV (ρ.i 1), iV (ρ.i 2), (mkS z).ev ρ])] = _
    rw [es, hρ]; rfl) rfl) (fun q hq => by cases hq) (fun q hq => by cases hq) one_nodup).trans fun g1 w1 hd => ?_
  obtain ⟨ρ', fr1, rfl, f1, Ag, F1, bl⟩ := hd
  have i1 : ρ'.i 1 = k := (Ag.i 1 (by decide)).trans (by rw [hρ]; rfl)
  have i2 : ρ'.i 2 = n := (Ag.i 2 (by decide)).trans (by rw [hρ]; rfl)
  have es1 : (mkS z).ev ρ' = hdV z A o l.length c := by rw [AV.ev_agree Ag (mkS z) (by cases z <;> exact AV.low_in _ (by kernel_rfl)), es]
  have hX := (bl (100, exB z) (List.mem_singleton.2 rfl)).2
  have hX : (Blk.obj 24 [iV (ρ'.i 1), iV (ρ'.i 2), (mkS z).ev ρ']).at Tryd.prog w1 (ρ'.b 100) := hX
  rw [i1, i2, es1] at hX
  have F1' : FA 11 29 exT [] .normal [(1, ptrV (ρ'.b 100)), (3, tV (preT (l.take 0))), (4, iV ((0 : Nat) : Int))] fr1 := F1
  refine (ex_loop hz (fun j y hj => f1.cell (hel j y hj)) ⟨blk_cell hX rfl, blk_cell hX rfl, blk_cell hX rfl⟩ hk hl hn hlen (ht.keep f1) l.length 0 (by omega) (Fresh.refl _) F1').mono fun g2 w2 hd2 => ?_
  obtain ⟨fr2, rfl, f2, hL⟩ := hd2
  exact ⟨fr2, _, rfl, hL, f1.trans f2, rfl⟩
end
end Go.Proofs.YtojifefdokekpaaDoor
set_option maxRecDepth 100000
set_option linter.unusedVariables false
set_option linter.unusedSimpArgs false
namespace Go.Proofs.YtojifefdokekpaaDoor
open Go.Proofs.YtojifefdokekpaaDoor.SX Go.Conc
noncomputable def tlQ (l : List Nat) : Code := pc (bodyOf Tryd.f14) l
noncomputable def tlT : List Item := [.code (tlQ [1,1,0,1,0,0]), .inLoop (tlQ [1,1,0,1,0,0]), .inBlock 0, .code (tlQ [1,1,1])]
noncomputable def tlF (t : List Item) (l : List (Nat × AV)) (st : Nat → Value) : AFrame := ⟨14, 105, tmpsOf 105 st l, t, [], .run, .normal⟩
noncomputable def erB (k n : IE) (s : AV) : ABlk := .cells [i64 k, i64 n, s] 24
theorem tlIn (st : Nat → Value) : seeF (runZ [] [] 15 [101, 100] (cfg (tlF [.code (bodyOf Tryd.f14)] [(0, .opq 60)] st) [] [])) [0, 2, 3, 4] noL = some (⟨14, 105, tlT, [], .run, .normal, [], [(101, erB (.lit 0) (.lit 0) nilA), (100, erB (.lit 0) (.lit 0) nilA)], [.opq 60, ptr0 100, ptr0 101, i64 (.lit 0)]⟩, []) := by kernel_rfl
theorem tlInLow (st : Nat → Value) : cfgLow 100 (cfg (tlF [.code (bodyOf Tryd.f14)] [(0, .opq 60)] st) [] []) = true := by kernel_rfl
noncomputable def tlH (e : AV) (st : Nat → Value) : AFrame := tlF tlT [(0, e), (2, ptr0 62), (3, ptr0 61), (4, i64 (v 4))] st
noncomputable def tlB : List (BE × Bool) := [(.cmp .lss (v 4) (.lit 4096), true)]
noncomputable def tlX (z : Bool) : List (Nat × ABlk) := [(61, erB (.lit 0) (.lit 0) (sliZ z))]
noncomputable def tlM (t : Nat) : List (AA × AV) := [(⟨.dyn 60, .lit 0⟩, i64 (v 2)), (⟨.dyn 60, .lit 1⟩, .iface t (.opq 59))]
theorem tlGo (z : Bool) (t : Nat) (st : Nat → Value) : seeF (runZ (tlB ++ apBs z) (tlM t) 59 [101, 61] (cfg (tlH alAt st) [] (tlX z ++ preZ z))) [0, 2, 3, 4] noL = some (⟨14, 105, tlT, [], .run, .normal, [], [(101, apZ z 101), (61, erB (.lit 0) (.lit 0) (apV z 101))], [.iface t (.opq 59), ptr0 62, ptr0 61, i64 (.op .add .i64 (v 4) (.lit 1))]⟩, []) := by cases z <;> kernel_rfl
theorem tlGoLow (z : Bool) (st : Nat → Value) : cfgLow 100 (cfg (tlH alAt st) [] (tlX z ++ preZ z)) = true := by cases z <;> kernel_rfl
noncomputable def tlE : Nat → AV
  | 0 => .nilIface
  | 1 => .iface 40 (ptr0 60)
  | 2 => .iface 41 (ptr0 60)
  | 3 => .iface 42 (ptr0 60)
  | 4 => .iface 43 (ptr0 60)
  | 5 => .iface 117 (.opq 60)
  | 6 => .iface 44 (ptr0 60)
  | _ => .iface 29 (i64 (v 2))
noncomputable def tlM2 : Nat → List (AA × AV)
  | 1 => [(⟨.dyn 60, .lit 0⟩, i64 (v 2))]
  | 2 => [(⟨.dyn 60, .lit 0⟩, i64 (v 2))]
  | 3 => [(⟨.dyn 60, .lit 0⟩, i64 (v 2))]
  | 4 => [(⟨.dyn 60, .lit 0⟩, .iface 2 (i64 (v 2)))]
  | 6 => [(⟨.dyn 60, .lit 0⟩, i64 (v 2)), (⟨.dyn 60, .lit 1⟩, .nilIface)]
  | _ => []
noncomputable def tlR : Nat → List Item
  | 0 => [.inBlock 2, .code (tlQ [1,1,1,1])]
  | 6 => [.code (tlQ [1,1,0,1,0,0,1,0,0,1,1,1]), .inBlock 1, .code (tlQ [1,1,0,1,0,0,1,1]), .inLoop (tlQ [1,1,0,1,0,0]), .inBlock 0, .code (tlQ [1,1,1])]
  | _ => []
def tlS : Nat → Nat
  | 0 => 32 | 1 => 73 | 2 => 80 | 3 => 87 | 4 => 98 | 5 => 92 | 6 => 61 | _ => 98
noncomputable def tlN : Nat → IE
  | 0 => .lit 0 | 5 => .lit 0 | _ => v 2
noncomputable def tlZ (k : Nat) (z : Bool) : AV := match k with
  | 0 => nilA
  | _ => sliZ z
noncomputable def tlO : List (Nat × ABlk) := [(62, erB (.lit 0) (.lit 0) nilA)]
theorem tlEnd {k : Nat} (h : k < 8) (z : Bool) (st : Nat → Value) : seeF (runZ tlB (tlM2 k) (tlS k) [62] (cfg (tlH (tlE k) st) [] (tlX z ++ tlO))) [2] noL = some (⟨14, 105, .code .ret :: tlR k, [], .run, .normal, [], [(62, erB (.lit (Int.ofNat k)) (tlN k) (tlZ k z))], [ptr0 62]⟩, []) := by
  rcases (by omega : k = 0 ∨ k = 1 ∨ k = 2 ∨ k = 3 ∨ k = 4 ∨ k = 5 ∨ k = 6 ∨ k = 7) with rfl | rfl | rfl | rfl | rfl | rfl | rfl | rfl <;> cases z <;> kernel_rfl
theorem tlEndLow {k : Nat} (h : k < 8) (z : Bool) (st : Nat → Value) : cfgLow 100 (cfg (tlH (tlE k) st) [] (tlX z ++ tlO)) = true := by
  rcases (by omega : k = 0 ∨ k = 1 ∨ k = 2 ∨ k = 3 ∨ k = 4 ∨ k = 5 ∨ k = 6 ∨ k = 7) with rfl | rfl | rfl | rfl | rfl | rfl | rfl | rfl <;> cases z <;> kernel_rfl
theorem ent14 : enterA Tryd.prog 14 [.opq 0] .normal = .ok ⟨14, 105, entT 14 [.opq 0], [.code (bodyOf Tryd.f14)], [], .run, .normal⟩ := by kernel_rfl
end Go.Proofs.YtojifefdokekpaaDoor
set_option maxRecDepth 100000
set_option linter.unusedVariables false
set_option linter.unusedSimpArgs false
namespace Go.Proofs.YtojifefdokekpaaDoor
open Go.Proofs.YtojifefdokekpaaDoor.SX Go.Conc
theorem vec_ne_obj {w : World} {B X c e : Nat} {xs cs : List Value} (h : (Blk.vec 3 c xs).at Tryd.prog w B) (h' : (Blk.obj e cs).at Tryd.prog w X) (he : e ≠ 3) : B ≠ X := by
  rintro rfl
  obtain ⟨arr, rest, i, h1, _⟩ := (show VecAt Tryd.prog w 3 B xs c from h).ex
  obtain ⟨arr', h2, _⟩ := (show ObjAt w B cs e from h')
  rw [h1] at h2
  cases h2
  exact he rfl
section
variable {w w0 : World} {cs : List Frame} {fr : Frame} {e u : Value} {k : Nat} {n : Int} {l acc : List Int} {X R i : Nat}
structure TlAt (w0 w : World) (X R : Nat) (u : Value) (acc : List Int) : Prop where
  fresh : Fresh w0 w
  x : (Blk.obj 24 [iV 0, iV 0, u]).at Tryd.prog w X
  r : (Blk.obj 24 [iV 0, iV 0, nilV]).at Tryd.prog w R
  u : NumOut w0 u acc w
  gx : w0.heap.size ≤ X
  gr : w0.heap.size ≤ R
  ne : X ≠ R
abbrev TlH (e : Value) (X R i : Nat) (fr : Frame) : Prop := FA 14 105 tlT [] .normal [(0, e), (2, ptrV R), (3, ptrV X), (4, iV i)] fr
theorem u_form (h : NumOut w0 u acc w) : ∃ (z : Bool) (B c : Nat), u = (match z with | true => nilV | false => slV B 0 acc.length c) ∧ (z = true → acc = []) ∧ (z = false → w0.heap.size ≤ B ∧ (Blk.vec 3 c (acc.map iV)).at Tryd.prog w B) := by
  rcases h with ⟨h1, h2⟩ | ⟨h1, B, c, h2, h3, h4⟩
  · exact ⟨true, 0, 0, h1, fun _ => h2, fun h => by cases h⟩
  · exact ⟨false, B, c, h2, fun h => (by cases h), fun _ => ⟨h3, h4⟩⟩
theorem tl_round {A : Nat} {x : Int} {t : Nat} {p : Value} (M : TlAt w0 w X R u acc) (hA : w0.cell? ⟨A, 0, none⟩ = some (iV x)) (hA1 : w0.cell? ⟨A, 1, none⟩ = some (.iface t p)) (hi : i < 4096) (hl : acc.length ≤ 100000) (hf : TlH (.iface 44 (ptrV A)) X R i fr) :
    Goes (G fr cs) w fun g' w' => ∃ fr' u', g' = G fr' cs ∧ TlAt w0 w' X R u' (acc ++ [x]) ∧ TlH (.iface t p) X R (i + 1) fr' := by
  obtain ⟨z, B, c, hs, hz, hb⟩ := u_form M.u
  obtain ⟨ρ, hρ⟩ : ∃ ρ : Env, ρ = mkE [(2, x), (4, i), (8, acc.length), (57, c)] [(60, A), (61, X), (62, R), (52, B)] [(59, p), (63, .agg (acc.map iV).toArray)] := ⟨_, rfl⟩
  have e52 : ρ.b 52 = B := by rw [hρ]; rfl
  have e61 : ρ.b 61 = X := by rw [hρ]; rfl
  have hpre : ∀ q ∈ tlX z ++ preZ z, q = (61, erB (.lit 0) (.lit 0) (sliZ z)) ∨ (q = (52, .pre false 63 (v 8) [] [] [] 3 (v 57)) ∧ z = false) := fun q hq => by
    rcases List.mem_append.1 hq with hq | hq
    · exact .inl (List.mem_singleton.1 hq)
    · cases z with
      | true => cases hq
      | false => exact .inr ⟨List.mem_singleton.1 hq, rfl⟩
  have hlow : ∀ q, ownP ρ w (tlX z ++ preZ z) q → w.heap.size ≤ q ∨ q = X ∨ (z = false ∧ q = B) := fun q hq => by
    rcases hq with hq | ⟨y, hy, e⟩
    · exact .inl hq
    · rcases hpre y hy with rfl | ⟨rfl, hz'⟩
      · exact .inr (.inl (e.symm.trans e61))
      · exact .inr (.inr ⟨hz', e.symm.trans e52⟩)
  have hBX : z = false → B ≠ X := fun hz' => vec_ne_obj (hb hz').2 M.x (by decide)
  have hBR : z = false → B ≠ R := fun hz' => vec_ne_obj (hb hz').2 M.r (by decide)
  have hAlt : A < w0.heap.size := cellLt hA
  have esl : (sliZ z).ev ρ = u := by rw [hs, hρ]; cases z <;> rfl
  refine (pieceW (ρ := ρ) (tlX z ++ preZ z) [(101, apZ z 101), (61, erB (.lit 0) (.lit 0) (apV z 101))] (tlGo z t (stOf fr)) rfl rfl (tlGoLow z _) (by cases z <;> kernel_rfl) (hf.rel (.inl rfl) [(0, alAt), (2, ptr0 62), (3, ptr0 61), (4, i64 (v 4))] (by rw [hρ]; rfl) rfl) (fun q hq => ?_) (fun q hq => ?_) (fun q hq => ?_) ?_ (of_decide_eq_true (by kernel_rfl))).mono fun g' w' hd => ?_
  · rcases List.mem_append.1 hq with hq | hq
    · obtain rfl := List.mem_singleton.1 hq
      rw [hρ]
      show decide ((i : Int) < 4096) = true
      exact decide_eq_true (by omega)
    · cases z with
      | true => cases hq
      | false =>
        obtain rfl := List.mem_singleton.1 hq
        rw [hρ]
        show decide ((((acc.length : Int).toNat : Nat) : Int) + 1 ≤ 1048576) = true
        exact decide_eq_true (by omega)
  · have hne : ∀ y ∈ tlX z ++ preZ z, ρ.b y.1 ≠ A := fun y hy => by
      rcases hpre y hy with rfl | ⟨rfl, hz'⟩
      · show ρ.b 61 ≠ A
        rw [e61]
        have := M.gx
        omega
      · show ρ.b 52 ≠ A
        rw [e52]
        have := (hb hz').1
        omega
    simp only [tlM, List.mem_cons, List.not_mem_nil, or_false] at hq
    rcases hq with rfl | rfl
    · exact ⟨by rw [hρ]; exact M.fresh.cell hA, fun y hy => by have := hne y hy; rw [hρ] at this ⊢; exact this⟩
    · exact ⟨by rw [hρ]; exact M.fresh.cell hA1, fun y hy => by have := hne y hy; rw [hρ] at this ⊢; exact this⟩
  · rcases hpre q hq with rfl | ⟨rfl, hz'⟩
    · refine ⟨.obj 24 [iV 0, iV 0, u], by show (Blk.obj 24 [iV 0, iV 0, u]).at Tryd.prog w (ρ.b 61); rw [e61]; exact M.x, rfl, ?_⟩
      show [iV 0, iV 0, (sliZ z).ev ρ] = _
      rw [esl]
    · refine ⟨.vec 3 c (acc.map iV), ?_, rfl, ?_, fun inf hinf => ?_, (fun q hq => by cases hq), ?_⟩
      · show (Blk.vec 3 c (acc.map iV)).at Tryd.prog w (ρ.b 52)
        rw [e52]; exact (hb hz').2
      · rw [hρ]; rfl
      · rw [size3 inf hinf, List.length_map, hρ]
        show acc.length = ((acc.length : Nat) : Int).toNat * 1
        omega
      · rw [hρ]; rfl
  · cases z with
    | true => exact one_nodup
    | false =>
      show [ρ.b 61, ρ.b 52].Nodup
      rw [e61, e52]
      exact List.nodup_cons.2 ⟨fun h => hBX rfl (List.mem_singleton.1 h).symm, one_nodup⟩
  · obtain ⟨ρ', fr', rfl, kp, Ag, f1, bl⟩ := hd
    obtain ⟨hown, hblk⟩ := bl (101, apZ z 101) (List.mem_cons_self ..)
    have hX' := (bl (61, erB (.lit 0) (.lit 0) (apV z 101)) (List.mem_cons_of_mem _ (List.mem_singleton.2 rfl))).2
    have i2 : ρ'.i 2 = x := (Ag.i 2 (by decide)).trans (by rw [hρ]; rfl)
    have i4 : ρ'.i 4 = i := (Ag.i 4 (by decide)).trans (by rw [hρ]; rfl)
    have i8 : ρ'.i 8 = acc.length := (Ag.i 8 (by decide)).trans (by rw [hρ]; rfl)
    have v63 : ρ'.v 63 = .agg (acc.map iV).toArray := (congrFun Ag.v 63).trans (by rw [hρ]; rfl)
    have v59 : ρ'.v 59 = p := (congrFun Ag.v 59).trans (by rw [hρ]; rfl)
    have b61 : ρ'.b 61 = X := (Ag.b 61 (by decide)).trans e61
    have b62 : ρ'.b 62 = R := (Ag.b 62 (by decide)).trans (by rw [hρ]; rfl)
    have hbv : blkOf ρ' (apZ z 101) = .vec 3 (ρ'.i 101).toNat ((acc ++ [x]).map iV) := by
      rw [List.map_append]
      cases z with
      | true =>
        rw [hz rfl]
        show Blk.vec 3 (ρ'.i 101).toNat [iV (ρ'.i 2)] = _
        rw [i2]; rfl
      | false =>
        show Blk.vec 3 (ρ'.i 101).toNat (listV (ρ'.v 63) ++ [iV (ρ'.i 2)]) = _
        rw [v63, i2]; rfl
    have hsv : (apV z 101).ev ρ' = slV (ρ'.b 101) 0 (acc ++ [x]).length (ρ'.i 101).toNat := by
      rw [List.length_append, List.length_singleton]
      cases z with
      | true => rw [hz rfl]; rfl
      | false =>
        show Value.slice (some ⟨ρ'.b 101, 0, none⟩) ((((ρ'.i 8).toNat : Nat) : Int) + 1).toNat (ρ'.i 101).toNat = _
        rw [i8]
        show Value.slice _ ((((acc.length : Int).toNat : Nat) : Int) + 1).toNat _ = _
        rw [show ((((acc.length : Int).toNat : Nat) : Int) + 1).toNat = acc.length + 1 from by omega]
        rfl
    have hblk : (blkOf ρ' (apZ z 101)).at Tryd.prog w' (ρ'.b 101) := hblk
    rw [hbv] at hblk
    have hX2 : (Blk.obj 24 [iV 0, iV 0, (apV z 101).ev ρ']).at Tryd.prog w' (ρ'.b 61) := hX'
    rw [b61] at hX2
    have hge : ∀ q, ownP ρ w (tlX z ++ preZ z) q → w0.heap.size ≤ q := fun q hq => by
      have h1 := M.fresh.size
      have h2 := M.gx
      rcases hlow q hq with h | rfl | ⟨hz', rfl⟩
      · omega
      · exact h2
      · exact (hb hz').1
    have hRlt : R < w.heap.size := Blk.at_lt M.r
    have hR : ¬ ownP ρ w (tlX z ++ preZ z) R := fun h => by
      rcases hlow R h with h | h | ⟨hz', h⟩
      · omega
      · exact M.ne h.symm
      · exact hBR hz' h.symm
    refine ⟨fr', (apV z 101).ev ρ', rfl, ⟨Keeps.trans M.fresh (kp.mono hge), hX2, Blk.at_keep M.r kp hR, .inr ⟨by simp, _, _, hsv, hge _ hown, hblk⟩, M.gx, M.gr, M.ne⟩, ?_⟩
    have e0 : [0, 2, 3, 4].zip (AV.evs ρ' [.iface t (.opq 59), ptr0 62, ptr0 61, i64 (.op .add .i64 (v 4) (.lit 1))]) = [(0, .iface t p), (2, ptrV R), (3, ptrV X), (4, iV ((i + 1 : Nat) : Int))] := by
      show [(0, Value.iface t (ρ'.v 59)), (2, ptrV (ρ'.b 62)), (3, ptrV (ρ'.b 61)), (4, iV (iop .add .i64 (ρ'.i 4) 1))] = _
      rw [v59, b61, b62, i4, inc (by omega)]
    show FA 14 105 tlT [] .normal [(0, .iface t p), (2, ptrV R), (3, ptrV X), (4, iV ((i + 1 : Nat) : Int))] fr'
    rw [← e0]; exact f1
end
end Go.Proofs.YtojifefdokekpaaDoor
set_option maxRecDepth 100000
set_option linter.unusedVariables false
set_option linter.unusedSimpArgs false
namespace Go.Proofs.YtojifefdokekpaaDoor
open Go.Proofs.YtojifefdokekpaaDoor.SX Go.Conc
section
variable {w w0 : World} {cs : List Frame} {fr : Frame} {e u : Value} {k : Nat} {n : Int} {l acc : List Int} {X R i : Nat}
theorem tl_end {A o : Nat} {p : Value} (M : TlAt w0 w X R u acc) (hk : k < 8) (hkn : k = 0 ∨ k = 5 → n = 0) (h0 : k = 0 → acc = []) (hi : i < 4096) (he : (tlE k).ev (mkE [(2, n)] [(60, A)] [(60, p)]) = e) (hm : ∀ q ∈ tlM2 k, w0.cell? (q.1.ev (mkE [(2, n)] [(60, A)] [(60, p)])) = some (q.2.ev (mkE [(2, n)] [(60, A)] [(60, p)]))) (hf : TlH e X R i fr) :
    Goes (G fr cs) w fun g' w' => ∃ fr' u', g' = G fr' cs ∧ Fresh w0 w' ∧ NumOut w0 u' acc w' ∧ Leav 14 fr' w' (errV k n u') := by
  obtain ⟨z, B, c, hs, hz, hb⟩ := u_form M.u
  obtain ⟨ρ, hρ⟩ : ∃ ρ : Env, ρ = mkE [(2, n), (4, i), (8, acc.length), (57, c)] [(60, A), (61, X), (62, R), (52, B)] [(60, p)] := ⟨_, rfl⟩
  have e61 : ρ.b 61 = X := by rw [hρ]; rfl
  have e62 : ρ.b 62 = R := by rw [hρ]; rfl
  have esl : (sliZ z).ev ρ = u := by rw [hs, hρ]; cases z <;> rfl
  have he' : (tlE k).ev ρ = e := by
    rw [← he, hρ]
    rcases (by omega : k = 0 ∨ k = 1 ∨ k = 2 ∨ k = 3 ∨ k = 4 ∨ k = 5 ∨ k = 6 ∨ k = 7) with rfl | rfl | rfl | rfl | rfl | rfl | rfl | rfl <;> rfl
  have hm' : ∀ q ∈ tlM2 k, w0.cell? (q.1.ev ρ) = some (q.2.ev ρ) := fun q hq => by
    have h1 := hm q hq
    rw [hρ]
    rcases (by omega : k = 0 ∨ k = 1 ∨ k = 2 ∨ k = 3 ∨ k = 4 ∨ k = 5 ∨ k = 6 ∨ k = 7) with rfl | rfl | rfl | rfl | rfl | rfl | rfl | rfl
    · cases hq
    · obtain rfl := List.mem_singleton.1 hq; exact h1
    · obtain rfl := List.mem_singleton.1 hq; exact h1
    · obtain rfl := List.mem_singleton.1 hq; exact h1
    · obtain rfl := List.mem_singleton.1 hq; exact h1
    · cases hq
    · simp only [tlM2, List.mem_cons, List.not_mem_nil, or_false] at hq
      rcases hq with rfl | rfl <;> exact h1
    · cases hq
  have hpre : ∀ q ∈ tlX z ++ tlO, q = (61, erB (.lit 0) (.lit 0) (sliZ z)) ∨ q = (62, erB (.lit 0) (.lit 0) nilA) := fun q hq => by
    rcases List.mem_append.1 hq with hq | hq
    · exact .inl (List.mem_singleton.1 hq)
    · exact .inr (List.mem_singleton.1 hq)
  have hlow : ∀ q, ownP ρ w (tlX z ++ tlO) q → w.heap.size ≤ q ∨ q = X ∨ q = R := fun q hq => by
    rcases hq with hq | ⟨y, hy, e⟩
    · exact .inl hq
    · rcases hpre y hy with rfl | rfl
      · exact .inr (.inl (e.symm.trans e61))
      · exact .inr (.inr (e.symm.trans e62))
  refine (pieceW (ρ := ρ) (tlX z ++ tlO) [(62, erB (.lit (Int.ofNat k)) (tlN k) (tlZ k z))] (tlEnd hk z (stOf fr)) rfl rfl (tlEndLow hk z _) (by rcases (by omega : k = 0 ∨ k = 1 ∨ k = 2 ∨ k = 3 ∨ k = 4 ∨ k = 5 ∨ k = 6 ∨ k = 7) with rfl | rfl | rfl | rfl | rfl | rfl | rfl | rfl <;> kernel_rfl) (hf.rel (.inl rfl) [(0, tlE k), (2, ptr0 62), (3, ptr0 61), (4, i64 (v 4))] (by
    show [(0, (tlE k).ev ρ), (2, ptrV (ρ.b 62)), (3, ptrV (ρ.b 61)), (4, iV (ρ.i 4))] = _
    rw [he', e61, e62, hρ]; rfl) rfl) (fun q hq => ?_) (fun q hq => ?_) (fun q hq => ?_) ?_ one_nodup).trans fun g' w' hd => ?_
  · obtain rfl := List.mem_singleton.1 hq
    rw [hρ]
    show decide ((i : Int) < 4096) = true
    exact decide_eq_true (by omega)
  · have h1 := hm' q hq
    refine ⟨M.fresh.cell h1, fun y hy => ?_⟩
    have h2 := cellLt h1
    have h3 := M.gx
    have h4 := M.gr
    rcases hpre y hy with rfl | rfl
    · show ρ.b 61 ≠ _
      rw [e61]; omega
    · show ρ.b 62 ≠ _
      rw [e62]; omega
  · rcases hpre q hq with rfl | rfl
    · refine ⟨.obj 24 [iV 0, iV 0, u], by show (Blk.obj 24 [iV 0, iV 0, u]).at Tryd.prog w (ρ.b 61); rw [e61]; exact M.x, rfl, ?_⟩
      show [iV 0, iV 0, (sliZ z).ev ρ] = _
      rw [esl]
    · exact ⟨.obj 24 [iV 0, iV 0, nilV], by show (Blk.obj 24 [iV 0, iV 0, nilV]).at Tryd.prog w (ρ.b 62); rw [e62]; exact M.r, rfl, rfl⟩
  · show [ρ.b 61, ρ.b 62].Nodup
    rw [e61, e62]
    exact List.nodup_cons.2 ⟨fun h => M.ne (List.mem_singleton.1 h), one_nodup⟩
  · obtain ⟨ρ', fr1, rfl, kp, Ag, f1, bl⟩ := hd
    have hR' := (bl (62, erB (.lit (Int.ofNat k)) (tlN k) (tlZ k z)) (List.mem_singleton.2 rfl)).2
    have i2 : ρ'.i 2 = n := (Ag.i 2 (by decide)).trans (by rw [hρ]; rfl)
    have b62 : ρ'.b 62 = R := (Ag.b 62 (by decide)).trans e62
    have esl' : (sliZ z).ev ρ' = u := by rw [AV.ev_agree Ag (sliZ z) (by cases z <;> exact AV.low_in _ (by kernel_rfl)), esl]
    have hR2 : (Blk.obj 24 [iV k, iV ((tlN k).ev ρ'), (tlZ k z).ev ρ']).at Tryd.prog w' (ρ'.b 62) := hR'
    have eN : (tlN k).ev ρ' = n := by
      rcases (by omega : k = 0 ∨ k = 1 ∨ k = 2 ∨ k = 3 ∨ k = 4 ∨ k = 5 ∨ k = 6 ∨ k = 7) with rfl | rfl | rfl | rfl | rfl | rfl | rfl | rfl
      · exact (hkn (.inl rfl)).symm
      · exact i2
      · exact i2
      · exact i2
      · exact i2
      · exact (hkn (.inr rfl)).symm
      · exact i2
      · exact i2
    obtain ⟨u', hu'⟩ : ∃ u', u' = (tlZ k z).ev ρ' := ⟨_, rfl⟩
    rw [eN, b62, ← hu'] at hR2
    have hU : u' = u ∨ (k = 0 ∧ u' = nilV) := by
      by_cases hk0 : k = 0
      · subst hk0; exact .inr ⟨rfl, hu'⟩
      · refine .inl ?_
        rw [hu', ← esl']
        rcases (by omega : k = 1 ∨ k = 2 ∨ k = 3 ∨ k = 4 ∨ k = 5 ∨ k = 6 ∨ k = 7) with rfl | rfl | rfl | rfl | rfl | rfl | rfl <;> rfl
    have hge : ∀ q, ownP ρ w (tlX z ++ tlO) q → w0.heap.size ≤ q := fun q hq => by
      have h1 := M.fresh.size
      rcases hlow q hq with h | rfl | rfl
      · omega
      · exact M.gx
      · exact M.gr
    have hfw : Fresh w0 w' := Keeps.trans M.fresh (kp.mono hge)
    have hNum : NumOut w0 u' acc w' := by
      rcases hU with rfl | ⟨hk0, rfl⟩
      · rcases M.u with h | ⟨h1, B', c', h2, h3, h4⟩
        · exact .inl h
        · refine .inr ⟨h1, B', c', h2, h3, Blk.at_keep h4 kp fun hh => ?_⟩
          have hlt : B' < w.heap.size := Blk.at_lt h4
          rcases hlow B' hh with h | h | h
          · omega
          · exact vec_ne_obj h4 M.x (by decide) h
          · exact vec_ne_obj h4 M.r (by decide) h
      · exact .inl ⟨rfl, h0 hk0⟩
    have F1' : FA 14 105 (.code .ret :: tlR k) [] .normal [(2, ptrV R)] fr1 := by rw [← b62]; exact f1
    refine (leave_at (ρ := mkE [] [(62, R)] [(40, iV k), (41, iV n), (42, u')]) (lA := [(2, ptr0 62)]) (bs := []) (mem := [(⟨.dyn 62, .lit 0⟩, .opq 40), (⟨.dyn 62, .lit 1⟩, .opq 41), (⟨.dyn 62, .lit 2⟩, .opq 42)]) F1' (a := .agg [.opq 40, .opq 41, .opq 42]) (fun p hp => hp) (fun st => by kernel_rfl) (fun q hq => by cases hq) (fun q hq => ?_)).mono fun g2 w2 hd2 => ?_
    · simp only [List.mem_cons, List.not_mem_nil, or_false] at hq
      rcases hq with rfl | rfl | rfl
      · exact blk_cell hR2 (i := 0) rfl
      · exact blk_cell hR2 (i := 1) rfl
      · exact blk_cell hR2 (i := 2) rfl
    · obtain ⟨fr2, rfl, rfl, hL⟩ := hd2
      exact ⟨fr2, u', rfl, hfw, hNum, hL⟩
theorem tl_loop (h : ErrAt w0 e l k n) (hkn : k = 0 ∨ k = 5 → n = 0) : ∀ (acc : List Int) (i : Nat) {w : World} {u : Value} {fr : Frame}, (k = 0 → acc = []) → acc.length + l.length ≤ 100000 → i + l.length < 4096 → TlAt w0 w X R u acc → TlH e X R i fr →
    Goes (G fr cs) w fun g' w' => ∃ fr' u', g' = G fr' cs ∧ Fresh w0 w' ∧ NumOut w0 u' (acc ++ l) w' ∧ Leav 14 fr' w' (errV k n u') := by
  induction h with
  | nil n =>
    intro acc i w u fr h0 hl hi M hf
    rw [List.append_nil]
    exact tl_end (A := 0) (o := 0) (p := undef) M (by decide) hkn h0 (by simpa using hi) rfl (fun q hq => by cases hq) hf
  | failed A n h =>
    intro acc i w u fr h0 hl hi M hf
    rw [List.append_nil]
    exact tl_end (k := 1) (A := A) (o := 0) (p := undef) M (by decide) hkn h0 (by simpa using hi) rfl (fun q hq => by obtain rfl := List.mem_singleton.1 hq; exact h) hf
  | cancelled A n h =>
    intro acc i w u fr h0 hl hi M hf
    rw [List.append_nil]
    exact tl_end (k := 2) (A := A) (o := 0) (p := undef) M (by decide) hkn h0 (by simpa using hi) rfl (fun q hq => by obtain rfl := List.mem_singleton.1 hq; exact h) hf
  | late A n h =>
    intro acc i w u fr h0 hl hi M hf
    rw [List.append_nil]
    exact tl_end (k := 3) (A := A) (o := 0) (p := undef) M (by decide) hkn h0 (by simpa using hi) rfl (fun q hq => by obtain rfl := List.mem_singleton.1 hq; exact h) hf
  | panic A n h =>
    intro acc i w u fr h0 hl hi M hf
    rw [List.append_nil]
    exact tl_end (k := 4) (A := A) (o := 0) (p := undef) M (by decide) hkn h0 (by simpa using hi) rfl (fun q hq => by obtain rfl := List.mem_singleton.1 hq; exact h) hf
  | plain A o n h =>
    intro acc i w u fr h0 hl hi M hf
    rw [List.append_nil]
    exact tl_end (k := 5) (A := 0) (o := 0) (p := .pointer (some ⟨A, o, none⟩)) M (by decide) hkn h0 (by simpa using hi) rfl (fun q hq => by cases hq) hf
  | at0 A n h h1 =>
    intro acc i w u fr h0 hl hi M hf
    rw [List.append_nil]
    exact tl_end (k := 6) (A := A) (o := 0) (p := undef) M (by decide) hkn h0 (by simpa using hi) rfl (fun q hq => by
      simp only [tlM2, List.mem_cons, List.not_mem_nil, or_false] at hq
      rcases hq with rfl | rfl
      · exact h
      · exact h1) hf
  | errno n =>
    intro acc i w u fr h0 hl hi M hf
    rw [List.append_nil]
    exact tl_end (k := 7) (A := 0) (o := 0) (p := undef) M (by decide) hkn h0 (by simpa using hi) rfl (fun q hq => by cases hq) hf
  | at' A x e l k n h h1 hk' he ih =>
    intro acc i w u fr h0 hl hi M hf
    obtain ⟨t, p, rfl⟩ := he.is hk'
    simp only [List.length_cons] at hl hi
    refine (tl_round M h h1 (by omega) (by omega) hf).trans fun g1 w1 hd => ?_
    obtain ⟨fr1, u1, rfl, M1, F1⟩ := hd
    have := ih hkn (acc ++ [x]) (i + 1) (fun hk0 => (hk' hk0).elim) (by rw [List.length_append, List.length_singleton]; omega) (by omega) M1 F1
    rwa [List.append_assoc acc [x] l] at this
theorem told14_all (h : ErrAt w e l k n) (hkn : k = 0 ∨ k = 5 → n = 0) (hl : l.length ≤ 4000) : Ans 14 #[e] w fun v w' => Fresh w w' ∧ ∃ u, v = errV k n u ∧ NumOut w u l w' := by
  refine ans_of fun cs => ?_
  refine (pieceI (ρ := mkE [] [] [(60, e)]) [] [(101, erB (.lit 0) (.lit 0) nilA), (100, erB (.lit 0) (.lit 0) nilA)] (tlIn (stOf _)) rfl rfl (tlInLow _) (by kernel_rfl) ((enter1 ent14 rfl e).rel (.inl rfl) [(0, .opq 60)] rfl rfl) (fun q hq => by cases hq) (fun q hq => by cases hq) (fun q hq => by cases hq) List.nodup_nil (of_decide_eq_true (by kernel_rfl))).trans fun g1 w1 hd => ?_
  obtain ⟨ρ', fr1, rfl, kp, Ag, F1, bl, inj⟩ := hd
  have f1 : Fresh w w1 := kp.mono fun q hq => hq.elim id fun ⟨y, hy, _⟩ => (by cases hy)
  have v60 : ρ'.v 60 = e := congrFun Ag.v 60
  have m1 : ((101, erB (.lit 0) (.lit 0) nilA) : Nat × ABlk) ∈ [(101, erB (.lit 0) (.lit 0) nilA), (100, erB (.lit 0) (.lit 0) nilA)] := List.mem_cons_self ..
  have m2 : ((100, erB (.lit 0) (.lit 0) nilA) : Nat × ABlk) ∈ [(101, erB (.lit 0) (.lit 0) nilA), (100, erB (.lit 0) (.lit 0) nilA)] := List.mem_cons_of_mem _ (List.mem_singleton.2 rfl)
  obtain ⟨hgx, hX⟩ := bl _ m1
  obtain ⟨hgr, hR⟩ := bl _ m2
  have own : ∀ q, ownP (mkE [] [] [(60, e)]) w [] q → w.heap.size ≤ q := fun q hq => hq.elim id fun ⟨y, hy, _⟩ => (by cases hy)
  have F1' : TlH e (ρ'.b 101) (ρ'.b 100) 0 fr1 := by
    show FA 14 105 tlT [] .normal [(0, e), (2, ptrV (ρ'.b 100)), (3, ptrV (ρ'.b 101)), (4, iV ((0 : Nat) : Int))] fr1
    rw [← v60]; exact F1
  have M : TlAt w w1 (ρ'.b 101) (ρ'.b 100) nilV [] := ⟨f1, hX, hR, .inl ⟨rfl, rfl⟩, own _ hgx, own _ hgr, fun e => by
    have := inj _ m1 _ m2 e
    cases this⟩
  refine (tl_loop h hkn [] 0 (fun _ => rfl) (by simp only [List.length_nil]; omega) (by omega) M F1').mono fun g2 w2 hd2 => ?_
  obtain ⟨fr2, u', rfl, f2, hN, hL⟩ := hd2
  exact ⟨fr2, _, rfl, hL, f2, u', rfl, hN⟩
end
end Go.Proofs.YtojifefdokekpaaDoor
set_option maxRecDepth 100000
set_option linter.unusedVariables false
set_option linter.unusedSimpArgs false
namespace Go.Proofs.YtojifefdokekpaaDoor
open Go.Proofs.YtojifefdokekpaaDoor.SX Go.Conc
noncomputable def smQ (l : List Nat) : Code := pc (bodyOf Tryd.f13) l
noncomputable def smT : List Item := [.code (smQ [1,1,0,1,0,0]), .inLoop (smQ [1,1,0,1,0,0]), .inBlock 0, .code (smQ [1,1,1])]
noncomputable def smF (t : List Item) (l : List (Nat × AV)) (st : Nat → Value) : AFrame := ⟨13, 45, tmpsOf 45 st l, t, [], .run, .normal⟩
noncomputable def erA3 (s : AV) : AV := .agg [i64 (v 1), i64 (v 2), s]
def nq (a : IE) : BE × Bool := (.cmp .neq a a, false)
theorem nq_ok {ρ : Env} {a : IE} : (nq a).1.ev ρ = (nq a).2 := by
  show (!decide (a.ev ρ = a.ev ρ)) = false
  simp
theorem smNil (st : Nat → Value) : seeF (runZ [nq (v 1), nq (v 2)] [] 55 [] (cfg (smF [.code (bodyOf Tryd.f13)] [(0, erA3 nilA), (1, erA3 nilA)] st) [] [])) [4] noL = some (⟨13, 45, .code .ret :: [], [], .run, .normal, [], [], [TB]⟩, []) := by kernel_rfl
theorem smIn (st : Nat → Value) : seeF (runZ [nq (v 1), nq (v 2), nq (.tn (v 51))] [] 40 [101, 100] (cfg (smF [.code (bodyOf Tryd.f13)] [(0, erA3 sl5), (1, erA3 sl6)] st) [] [])) [2, 3, 5] noL = some (⟨13, 45, smT, [], .run, .normal, [], [(101, .cells [i64 (v 1), i64 (v 2), sl6] 24), (100, .cells [i64 (v 1), i64 (v 2), sl5] 24)], [ptr0 100, ptr0 101, i64 (.lit 0)]⟩, []) := by kernel_rfl
theorem smInLow (st : Nat → Value) : cfgLow 100 (cfg (smF [.code (bodyOf Tryd.f13)] [(0, erA3 sl5), (1, erA3 sl6)] st) [] []) = true := by kernel_rfl
noncomputable def smH (st : Nat → Value) : AFrame := smF smT [(2, ptr0 61), (3, ptr0 62), (5, i64 (v 5))] st
noncomputable def smM : List (AA × AV) := [(⟨.dyn 61, .lit 2⟩, sl5), (⟨.dyn 62, .lit 2⟩, sl6)]
theorem smGo (st : Nat → Value) : seeF (runZ (ltB 5 51 ++ [nq (v 6)]) (smM ++ [(brk 50 53 5, i64 (v 6)), (brk 51 56 5, i64 (v 6))]) 24 [] (cfg (smH st) [] [])) [2, 3, 5] noL = some (⟨13, 45, smT, [], .run, .normal, [], [], [ptr0 61, ptr0 62, i64 (.op .add .i64 (v 5) (.lit 1))]⟩, []) := by kernel_rfl
theorem smEnd (st : Nat → Value) : seeF (runZ [(.cmp .lss (v 5) (.tn (v 51)), false)] smM 15 [] (cfg (smH st) [] [])) [4] noL = some (⟨13, 45, .code .ret :: [], [], .run, .normal, [], [], [TB]⟩, []) := by kernel_rfl
theorem smHLow (st : Nat → Value) : cfgLow 100 (cfg (smH st) [] []) = true := by kernel_rfl
theorem ent13 : enterA Tryd.prog 13 [.opq 0, .opq 1] .normal = .ok ⟨13, 45, entT 13 [.opq 0, .opq 1], [.code (bodyOf Tryd.f13)], [], .run, .normal⟩ := by kernel_rfl
section
variable {w : World} {cs : List Frame} {fr : Frame} {k : Nat} {n : Int} {l : List Int}
theorem sm_loop {A o c A' o' c' X Y : Nat} (hX : w.cell? ⟨X, 2, none⟩ = some (slV A o l.length c)) (hY : w.cell? ⟨Y, 2, none⟩ = some (slV A' o' l.length c')) (h1 : ∀ i n, l[i]? = some n → w.cell? ⟨A, o + i, none⟩ = some (iV n)) (h2 : ∀ i n, l[i]? = some n → w.cell? ⟨A', o' + i, none⟩ = some (iV n)) (hl : l.length ≤ 1000000) : ∀ (m i : Nat) {w1 : World} {fr : Frame}, i + m = l.length → Fresh w w1 → FA 13 45 smT [] .normal [(2, ptrV X), (3, ptrV Y), (5, iV i)] fr →
    Goes (G fr cs) w1 fun g' w' => ∃ fr', g' = G fr' cs ∧ Fresh w w' ∧ Leav 13 fr' w' (.bool true)
  | 0, i, w1, fr, him, fw, hf => by
    refine (pieceF (ρ := mkE [(5, i), (51, l.length), (52, c), (53, o), (55, c'), (56, o')] [(50, A), (51, A'), (61, X), (62, Y)] []) (smEnd (stOf fr)) rfl rfl (smHLow _) (by kernel_rfl) (hf.rel (.inl rfl) [(2, ptr0 61), (3, ptr0 62), (5, i64 (v 5))] rfl rfl) (fun q hq => by
      obtain rfl := List.mem_singleton.1 hq
      show decide ((i : Int) < (((((l.length : Nat) : Int)).toNat : Nat) : Int)) = false
      exact decide_eq_false (by omega)) (fun q hq => ?_) List.nodup_nil).trans fun g1 w2 hd => ?_
    · simp only [smM, List.mem_cons, List.not_mem_nil, or_false] at hq
      rcases hq with rfl | rfl
      · exact fw.cell hX
      · exact fw.cell hY
    obtain ⟨ρ', fr1, rfl, f1, Ag, F1, _⟩ := hd
    refine (leave_tmp (fun st => by kernel_rfl) F1 (List.mem_singleton.2 rfl)).mono fun g2 w3 hd2 => ?_
    obtain ⟨fr2, rfl, rfl, hL⟩ := hd2
    exact ⟨fr2, rfl, fw.trans f1, hL⟩
  | m + 1, i, w1, fr, him, fw, hf => by
    have hx : l[i]? = some l[i] := List.getElem?_eq_getElem (by omega)
    obtain ⟨ρ, hρ⟩ : ∃ ρ : Env, ρ = mkE [(5, i), (6, l[i]), (51, l.length), (52, c), (53, o), (55, c'), (56, o')] [(50, A), (51, A'), (61, X), (62, Y)] [] := ⟨_, rfl⟩
    refine (pieceF (ρ := ρ) (smGo (stOf fr)) rfl rfl (smHLow _) (by kernel_rfl) (hf.rel (.inl rfl) [(2, ptr0 61), (3, ptr0 62), (5, i64 (v 5))] (by rw [hρ]; rfl) rfl) (fun q hq => ?_) (fun q hq => ?_) List.nodup_nil).trans fun g1 w2 hd => ?_
    · rcases List.mem_append.1 hq with hq | hq
      · exact ltB_ok (I := i) (N := l.length) (by rw [hρ]; rfl) (by rw [hρ]; rfl) (by omega) q hq
      · obtain rfl := List.mem_singleton.1 hq
        exact nq_ok
    · rcases List.mem_append.1 hq with hq | hq
      · simp only [smM, List.mem_cons, List.not_mem_nil, or_false] at hq
        rcases hq with rfl | rfl
        · rw [hρ]; exact fw.cell hX
        · rw [hρ]; exact fw.cell hY
      · simp only [List.mem_cons, List.not_mem_nil, or_false] at hq
        rcases hq with rfl | rfl
        · rw [brk_ev (O := o) (I := i) (by rw [hρ]; rfl) (by rw [hρ]; rfl)]
          have := fw.cell (h1 i _ hx)
          rw [hρ]; exact this
        · rw [brk_ev (O := o') (I := i) (by rw [hρ]; rfl) (by rw [hρ]; rfl)]
          have := fw.cell (h2 i _ hx)
          rw [hρ]; exact this
    · obtain ⟨ρ', fr1, rfl, f1, Ag, F1, _⟩ := hd
      refine sm_loop hX hY h1 h2 hl m (i + 1) (by omega) (fw.trans f1) ?_
      have i5 : ρ'.i 5 = i := (Ag.i 5 (by decide)).trans (by rw [hρ]; rfl)
      have b61 : ρ'.b 61 = X := (Ag.b 61 (by decide)).trans (by rw [hρ]; rfl)
      have b62 : ρ'.b 62 = Y := (Ag.b 62 (by decide)).trans (by rw [hρ]; rfl)
      have e0 : [2, 3, 5].zip (AV.evs ρ' [ptr0 61, ptr0 62, i64 (.op .add .i64 (v 5) (.lit 1))]) = [(2, ptrV X), (3, ptrV Y), (5, iV ((i + 1 : Nat) : Int))] := by
        show [(2, ptrV (ρ'.b 61)), (3, ptrV (ρ'.b 62)), (5, iV (iop .add .i64 (ρ'.i 5) 1))] = _
        rw [b61, b62, i5, inc (by omega)]
      rw [← e0]; exact F1
theorem same13_all {a b : Value} (h1 : NumsNe w a l) (h2 : NumsNe w b l) (hl : l.length ≤ 1000000) : Ans 13 #[errV k n a, errV k n b] w fun v w' => Fresh w w' ∧ v = .bool true := by
  rcases h1 with ⟨rfl, rfl⟩ | ⟨hne, A, o, c, rfl, h1⟩
  · obtain ⟨rfl, _⟩ : b = nilV ∧ True := by
      rcases h2 with h | ⟨h, _⟩
      · exact ⟨h.1, trivial⟩
      · exact (h rfl).elim
    refine (ansP (ρ := mkE [(1, k), (2, n)] [] []) (lA := [(0, erA3 nilA), (1, erA3 nilA)]) (enter2 ent13 rfl (errV k n nilV) (errV k n nilV)) rfl smNil (fun st => by kernel_rfl) (by kernel_rfl) (fun st => by kernel_rfl) (fun q hq => by
      simp only [List.mem_cons, List.not_mem_nil, or_false] at hq
      rcases hq with rfl | rfl <;> exact nq_ok) (fun p hp => by cases hp) List.nodup_nil).mono fun v w' hd => ?_
    obtain ⟨f1, ρ', Ag, rfl, _⟩ := hd
    exact ⟨f1, rfl⟩
  · obtain ⟨A', o', c', rfl, h4⟩ : ∃ A' o' c', b = slV A' o' l.length c' ∧ ∀ i n, l[i]? = some n → w.cell? ⟨A', o' + i, none⟩ = some (iV n) := by
      rcases h2 with h | ⟨h, h3⟩
      · exact (hne h.2).elim
      · exact h3
    refine ans_of fun cs => ?_
    obtain ⟨ρ, hρ⟩ : ∃ ρ : Env, ρ = mkE [(1, k), (2, n), (51, l.length), (52, c), (53, o), (55, c'), (56, o')] [(50, A), (51, A')] [] := ⟨_, rfl⟩
    refine (pieceF (ρ := ρ) (smIn (stOf _)) rfl rfl (smInLow _) (by kernel_rfl) ((enter2 ent13 rfl (errV k n (slV A o l.length c)) (errV k n (slV A' o' l.length c'))).rel (.inl rfl) [(0, erA3 sl5), (1, erA3 sl6)] (by rw [hρ]; rfl) rfl) (fun q hq => by
      simp only [List.mem_cons, List.not_mem_nil, or_false] at hq
      rcases hq with rfl | rfl | rfl <;> exact nq_ok) (fun q hq => by cases hq) (of_decide_eq_true (by kernel_rfl))).trans fun g1 w1 hd => ?_
    obtain ⟨ρ', fr1, rfl, f1, Ag, F1, bl⟩ := hd
    have hY := (bl (101, .cells [i64 (v 1), i64 (v 2), sl6] 24) (List.mem_cons_self ..)).2
    have hX := (bl (100, .cells [i64 (v 1), i64 (v 2), sl5] 24) (List.mem_cons_of_mem _ (List.mem_singleton.2 rfl))).2
    have e5 : sl5.ev ρ' = slV A o l.length c := by rw [AV.ev_agree Ag sl5 (AV.low_in _ (by kernel_rfl)), hρ]; rfl
    have e6 : sl6.ev ρ' = slV A' o' l.length c' := by rw [AV.ev_agree Ag sl6 (AV.low_in _ (by kernel_rfl)), hρ]; rfl
    have cX : w1.cell? ⟨ρ'.b 100, 2, none⟩ = some (slV A o l.length c) := by rw [← e5]; exact blk_cell hX (i := 2) rfl
    have cY : w1.cell? ⟨ρ'.b 101, 2, none⟩ = some (slV A' o' l.length c') := by rw [← e6]; exact blk_cell hY (i := 2) rfl
    refine (sm_loop (w := w1) cX cY (fun i y hi => f1.cell (h1 i y hi)) (fun i y hi => f1.cell (h4 i y hi)) hl l.length 0 (by omega) (Fresh.refl _) F1).mono fun g2 w2 hd2 => ?_
    obtain ⟨fr2, rfl, f2, hL⟩ := hd2
    exact ⟨fr2, _, rfl, hL, f1.trans f2, rfl⟩
end
end Go.Proofs.YtojifefdokekpaaDoor
set_option maxRecDepth 100000
set_option linter.unusedVariables false
set_option linter.unusedSimpArgs false
namespace Go.Proofs.YtojifefdokekpaaDoor
open Go.Proofs.YtojifefdokekpaaDoor.SX Go.Conc
noncomputable def brQ (l : List Nat) : Code := pc (bodyOf Tryd.f4) l
noncomputable def brF (t : List Item) (l : List (Nat × AV)) (st : Nat → Value) : AFrame := ⟨4, 31, tmpsOf 31 st l, t, [], .run, .normal⟩
noncomputable def brK : IE := .op .rem .i64 (.op .add .i64 (.op .rem .i64 (v 1) (.lit 8)) (.lit 8)) (.lit 8)
inductive Way where
  | nil | plain | other
def brW (e : IE) : Way → List (BE × Bool)
  | .nil => [(.cmp .eql e (.lit 0), true)]
  | .plain => [(.cmp .eql e (.lit 0), false), (.cmp .eql e (.lit 5), true)]
  | .other => [(.cmp .eql e (.lit 0), false), (.cmp .eql e (.lit 5), false)]
def brN : Way → IE
  | .nil => .lit 0
  | .plain => .lit 0
  | .other => v 2
noncomputable def brS (s : AV) : Way → AV
  | .nil => nilA
  | _ => s
def brL : Bool → List (BE × Bool)
  | true => []
  | false => [(.cmp .gtr (.tn (v 51)) (.lit 1000), false)]
def brM : Way → Nat
  | .nil => 59
  | .plain => 56
  | .other => 53
theorem brAll (z : Bool) (y : Way) (st : Nat → Value) : seeF (runZ (brL z ++ brW brK y) [] (brM y) [101] (cfg (brF [.code (bodyOf Tryd.f4)] [(0, exA z)] st) [] [])) [2] noL = some (⟨4, 31, .code .ret :: [], [], .run, .normal, [], [(101, erB brK (brN y) (brS (mkS z) y))], [ptr0 101]⟩, []) := by cases z <;> cases y <;> kernel_rfl
theorem brAllLow (z : Bool) (st : Nat → Value) : cfgLow 100 (cfg (brF [.code (bodyOf Tryd.f4)] [(0, exA z)] st) [] []) = true := by cases z <;> kernel_rfl
noncomputable def brO : Array Oper := opsOf (brQ [1,1,0,1,0])
noncomputable def brT (l : List Nat) : List Item := [.inRegion brO l, .code (brQ [1,1,1])]
theorem brCut (st : Nat → Value) : seeF (runZ [(.cmp .gtr (.tn (v 51)) (.lit 1000), true)] [] 27 [101, 100] (cfg (brF [.code (bodyOf Tryd.f4)] [(0, exA false)] st) [] [])) [1, 2, 14] noL = some (⟨4, 31, brT [2, 3, 4], [], .run, .normal, [], [(101, erB (.lit 0) (.lit 0) nilA), (100, erB brK (v 2) sl5)], [ptr0 100, ptr0 101, sl5]⟩, []) := by kernel_rfl
noncomputable def sl7 : AV := .slice (some ⟨.dyn 50, v 53⟩) (v 54) (v 52)
noncomputable def brP : List (Nat × ABlk) := [(61, erB (v 1) (v 2) sl7), (62, erB (.lit 0) (.lit 0) nilA)]
def brC : Way → Nat
  | .nil => 37
  | .plain => 34
  | .other => 31
theorem brEnd (y : Way) (st : Nat → Value) : seeF (runZ (brW (v 1) y) [] (brC y) [62] (cfg (brF (brT [3, 4]) [(1, ptr0 61), (2, ptr0 62), (15, sl5)] st) [] brP)) [2] noL = some (⟨4, 31, .code .ret :: [], [], .run, .normal, [], [(62, erB (v 1) (brN y) (brS sl5 y))], [ptr0 62]⟩, []) := by cases y <;> kernel_rfl
theorem brEndLow (st : Nat → Value) : cfgLow 100 (cfg (brF (brT [3, 4]) [(1, ptr0 61), (2, ptr0 62), (15, sl5)] st) [] brP) = true := by kernel_rfl
theorem brOp : (brO[2]?).isSome = true := by kernel_rfl
noncomputable def brOo : Oper := (brO[2]?).get brOp
theorem brIs : brO[2]? = some brOo := (Option.some_get _).symm
theorem brDo : brOo.op = .slice 22 (.tmp 14) none (some (.const (.int .i64 1000))) none := by kernel_rfl
theorem brG : brOo.guard = none := by kernel_rfl
theorem brD : brOo.dst = some 15 := by kernel_rfl
theorem ent4 : enterA Tryd.prog 4 [.opq 0] .normal = .ok ⟨4, 31, entT 4 [.opq 0], [.code (bodyOf Tryd.f4)], [], .run, .normal⟩ := by kernel_rfl
end Go.Proofs.YtojifefdokekpaaDoor
set_option maxRecDepth 100000
set_option linter.unusedVariables false
set_option linter.unusedSimpArgs false
namespace Go.Proofs.YtojifefdokekpaaDoor
open Go.Proofs.YtojifefdokekpaaDoor.SX Go.Conc
theorem cut_op {t elem size : Nat} (hU : under? Tryd.prog t = .ok (.slice elem)) (hS : sizeOf? Tryd.prog elem = .ok size) {off n c k : Nat} (h : k ≤ n) (hn : n ≤ c) (hc : c ≠ 0) : sliceOp? Tryd.prog t (.slice (some ⟨.dyn 50, .lit (Int.ofNat off)⟩) (.lit (Int.ofNat n)) (.lit (Int.ofNat c))) none (some (.int .i64 (.lit (Int.ofNat k)))) none = .ok (.slice (some ⟨.dyn 50, .lit (Int.ofNat off)⟩) (.lit (Int.ofNat k)) (.lit (Int.ofNat c))) := by
  unfold sliceOp?
  rw [hU]
  simp only [bind, Except.bind, litNat?, bounds?, bound?, high?, hS, pure, Except.pure]
  have : k ≤ c := by omega
  simp [this, hc, AA.add, addN]
theorem cut_wq {f : Operand → Value} {op : Oper} {x y : Operand} {t elem size : Nat} (ho : op.op = .slice t x none (some y) none) (hU : under? Tryd.prog t = .ok (.slice elem)) (hS : sizeOf? Tryd.prog elem = .ok size) {A off n c k : Nat} (w : World) (h1 : f x = slV A off n c) (h2 : f y = iV k) (h : k ≤ n) (hn : n ≤ c) (hc : c ≠ 0) :
    wq Tryd.prog (fun _ => True) (fun _ _ => False) (execOp f op) (fun r w' => r = .value (slV A off k c) ∧ w' = w) w := by
  let K : Ctx := ⟨Tryd.prog, {}, fun _ => True, fun _ => True, True, fun _ _ => False⟩
  let ρ : Env := mkE [] [(50, A)] []
  unfold execOp
  simp only [ho, h1, h2, Option.map_some, Option.map_none, wq_bind]
  refine wq_sliceAt (K := K) (ρ := ρ) (w := w) (cut_op (off := off) (k := k) hU hS h hn hc) (Q := fun v w' => wq Tryd.prog (fun _ => True) (fun _ _ => False) (pure (Go.Next.value v)) (fun r w' => r = .value (slV A off k c) ∧ w' = w) w') ?_
  exact ⟨rfl, rfl⟩
def kOf (K : Int) : Nat := ((K.tmod 8 + 8).tmod 8).toNat
theorem kOf_lt (K : Int) : kOf K < 8 := by
  unfold kOf
  have h1 := Int.tmod_lt_of_pos K (show (0 : Int) < 8 by decide)
  have h2 := Int.lt_tmod_of_pos K (show (0 : Int) < 8 by decide)
  have h3 := Int.tmod_lt_of_pos (K.tmod 8 + 8) (show (0 : Int) < 8 by decide)
  have h4 := Int.tmod_nonneg 8 (show (0 : Int) ≤ K.tmod 8 + 8 by omega)
  omega
theorem kOf_ev (K : Int) : iop .rem .i64 (iop .add .i64 (iop .rem .i64 K 8) 8) 8 = (kOf K : Int) := by
  have h1 := Int.tmod_lt_of_pos K (show (0 : Int) < 8 by decide)
  have h2 := Int.lt_tmod_of_pos K (show (0 : Int) < 8 by decide)
  have h3 := Int.tmod_lt_of_pos (K.tmod 8 + 8) (show (0 : Int) < 8 by decide)
  have h4 := Int.tmod_nonneg 8 (show (0 : Int) ≤ K.tmod 8 + 8 by omega)
  have e1 : iop .rem .i64 K 8 = K.tmod 8 := rfl
  have e2 : iop .add .i64 (K.tmod 8) 8 = K.tmod 8 + 8 := wrapN (by omega)
  have e3 : iop .rem .i64 (K.tmod 8 + 8) 8 = (K.tmod 8 + 8).tmod 8 := rfl
  rw [e1, e2, e3]
  unfold kOf
  omega
def wayOf (k : Nat) : Way := if k = 0 then .nil else if k = 5 then .plain else .other
def numOf (k : Nat) (n : Int) : Int := if k = 0 ∨ k = 5 then 0 else n
def lstOf (k : Nat) (l : List Int) : List Int := if k = 0 then [] else l.take 1000
theorem brW_ok {ρ : Env} {e : IE} {k : Nat} (h : e.ev ρ = (k : Int)) : ∀ p ∈ brW e (wayOf k), p.1.ev ρ = p.2 := by
  intro p hp
  unfold wayOf at hp
  by_cases h0 : k = 0
  · rw [if_pos h0] at hp
    obtain rfl := List.mem_singleton.1 hp
    show decide (e.ev ρ = 0) = true
    rw [h]; exact decide_eq_true (by omega)
  · rw [if_neg h0] at hp
    by_cases h5 : k = 5
    · rw [if_pos h5] at hp
      simp only [brW, List.mem_cons, List.not_mem_nil, or_false] at hp
      rcases hp with rfl | rfl
      · show decide (e.ev ρ = 0) = false
        rw [h]; exact decide_eq_false (by omega)
      · show decide (e.ev ρ = 5) = true
        rw [h]; exact decide_eq_true (by omega)
    · rw [if_neg h5] at hp
      simp only [brW, List.mem_cons, List.not_mem_nil, or_false] at hp
      rcases hp with rfl | rfl
      · show decide (e.ev ρ = 0) = false
        rw [h]; exact decide_eq_false (by omega)
      · show decide (e.ev ρ = 5) = false
        rw [h]; exact decide_eq_false (by omega)
theorem brN_ev {ρ : Env} {k : Nat} {n : Int} (h : ρ.i 2 = n) : (brN (wayOf k)).ev ρ = numOf k n := by
  unfold wayOf numOf
  by_cases h0 : k = 0
  · rw [if_pos h0, if_pos (.inl h0)]; rfl
  · by_cases h5 : k = 5
    · rw [if_neg h0, if_pos h5, if_pos (.inr h5)]; rfl
    · rw [if_neg h0, if_neg h5, if_neg (by simp [h0, h5])]; exact h
theorem brS_ev {ρ : Env} {k : Nat} {s : AV} {x : Value} (h : s.ev ρ = x) : (brS s (wayOf k)).ev ρ = if k = 0 then nilV else x := by
  unfold wayOf
  by_cases h0 : k = 0
  · rw [if_pos h0, if_pos h0]; rfl
  · by_cases h5 : k = 5
    · rw [if_neg h0, if_pos h5, if_neg h0]; exact h
    · rw [if_neg h0, if_neg h5, if_neg h0]; exact h
section
variable {w : World} {cs : List Frame} {fr : Frame} {s : Value} {K n : Int} {l : List Int}
theorem br_leave {R : Nat} {a b c : Value} (hR : (Blk.obj 24 [a, b, c]).at Tryd.prog w R) (hf : FA 4 31 (.code .ret :: []) [] .normal [(2, ptrV R)] fr) :
    Goes (G fr cs) w fun g' w' => ∃ fr', g' = G fr' cs ∧ w' = w ∧ Leav 4 fr' w' (.agg #[a, b, c]) :=
  leave_at (ρ := mkE [] [(62, R)] [(40, a), (41, b), (42, c)]) (lA := [(2, ptr0 62)]) (bs := []) (mem := [(⟨.dyn 62, .lit 0⟩, .opq 40), (⟨.dyn 62, .lit 1⟩, .opq 41), (⟨.dyn 62, .lit 2⟩, .opq 42)]) hf (a := .agg [.opq 40, .opq 41, .opq 42]) (fun p hp => hp) (fun st => by kernel_rfl) (fun q hq => by cases hq) (fun q hq => by
    simp only [List.mem_cons, List.not_mem_nil, or_false] at hq
    rcases hq with rfl | rfl | rfl
    · exact blk_cell hR (i := 0) rfl
    · exact blk_cell hR (i := 1) rfl
    · exact blk_cell hR (i := 2) rfl)
theorem brought_all (h : NumsAt w s l) : Ans 4 #[.agg #[iV K, iV n, s]] w fun v w' => Fresh w w' ∧ ∃ u, v = errV (kOf K) (numOf (kOf K) n) u ∧ (kOf K = 0 → u = nilV) ∧ ∀ W, NumsAt W s l → NumsAt W u (lstOf (kOf K) l) := by
  refine ans_of fun cs => ?_
  obtain ⟨z, A, o, c, rfl, hz, hc, hel⟩ := nums_form h
  obtain ⟨ρ, hρ⟩ : ∃ ρ : Env, ρ = mkE [(1, K), (2, n), (51, l.length), (52, c), (53, o)] [(50, A)] [] := ⟨_, rfl⟩
  have es : (mkS z).ev ρ = hdV z A o l.length c := by rw [hρ]; cases z <;> rfl
  have ekey : ∀ {ρ' : Env}, ρ'.i 1 = K → brK.ev ρ' = (kOf K : Int) := fun {ρ'} h => by
    show iop .rem .i64 (iop .add .i64 (iop .rem .i64 (ρ'.i 1) 8) 8) 8 = _
    rw [h]; exact kOf_ev K
  have F0 := enter1 ent4 rfl (.agg #[iV K, iV n, hdV z A o l.length c])
  have hA : told ρ [(0, exA z)] = [(0, .agg #[iV K, iV n, hdV z A o l.length c])] := by
    show [(0, Value.agg #[iV (ρ.i 1), iV (ρ.i 2), (mkS z).ev ρ])] = _
    rw [es, hρ]; rfl
  by_cases hcut : z = true ∨ l.length ≤ 1000
  · refine (pieceF (ρ := ρ) (brAll z (wayOf (kOf K)) (stOf _)) rfl rfl (brAllLow z _) (by unfold wayOf; split <;> (try split) <;> cases z <;> kernel_rfl) (F0.rel (.inl rfl) [(0, exA z)] hA rfl) (fun q hq => ?_) (fun q hq => by cases hq) one_nodup).trans fun g1 w1 hd => ?_
    · rcases List.mem_append.1 hq with hq | hq
      · cases z with
        | true => cases hq
        | false =>
          obtain rfl := List.mem_singleton.1 hq
          rw [hρ]
          show decide ((((l.length : Int).toNat : Nat) : Int) > 1000) = false
          exact decide_eq_false (by
            rcases hcut with h | h
            · cases h
            · omega)
      · exact brW_ok (ekey (by rw [hρ]; rfl)) q hq
    · obtain ⟨ρ', fr1, rfl, f1, Ag, F1, bl⟩ := hd
      have i1 : ρ'.i 1 = K := (Ag.i 1 (by decide)).trans (by rw [hρ]; rfl)
      have i2 : ρ'.i 2 = n := (Ag.i 2 (by decide)).trans (by rw [hρ]; rfl)
      have es' : (mkS z).ev ρ' = hdV z A o l.length c := by rw [AV.ev_agree Ag (mkS z) (by cases z <;> exact AV.low_in _ (by kernel_rfl)), es]
      have hR := (bl _ (List.mem_singleton.2 rfl)).2
      have hR : (Blk.obj 24 [iV (brK.ev ρ'), iV ((brN (wayOf (kOf K))).ev ρ'), (brS (mkS z) (wayOf (kOf K))).ev ρ']).at Tryd.prog w1 (ρ'.b 101) := hR
      rw [ekey i1, brN_ev i2, brS_ev es'] at hR
      refine (br_leave hR F1).mono fun g2 w2 hd2 => ?_
      obtain ⟨fr2, rfl, rfl, hL⟩ := hd2
      refine ⟨fr2, _, rfl, hL, f1, _, rfl, fun h => if_pos h, fun W hW => ?_⟩
      unfold lstOf
      by_cases h0 : kOf K = 0
      · rw [if_pos h0, if_pos h0]; exact ⟨.inl ⟨rfl, rfl⟩⟩
      · rw [if_neg h0, if_neg h0, List.take_of_length_le (by
          rcases hcut with hz' | h
          · rw [hz hz']; simp
          · exact h)]
        exact hW
  · obtain rfl : z = false := by
      cases z with
      | false => rfl
      | true => exact (hcut (.inl rfl)).elim
    have hlong : 1000 < l.length := by
      rcases Nat.lt_or_ge 1000 l.length with h | h
      · exact h
      · exact (hcut (.inr h)).elim
    have hcap : l.length ≤ c := by
      rcases hc with h | h
      · exact h
      · cases h
    refine (pieceI (ρ := ρ) [] [(101, erB (.lit 0) (.lit 0) nilA), (100, erB brK (v 2) sl5)] (brCut (stOf _)) rfl rfl (brAllLow false _) (by kernel_rfl) (F0.rel (.inl rfl) [(0, exA false)] hA rfl) (fun q hq => ?_) (fun q hq => by cases hq) (fun q hq => by cases hq) List.nodup_nil (of_decide_eq_true (by kernel_rfl))).trans fun g1 w1 hd => ?_
    · obtain rfl := List.mem_singleton.1 hq
      rw [hρ]
      show decide ((((l.length : Int).toNat : Nat) : Int) > 1000) = true
      exact decide_eq_true (by omega)
    obtain ⟨ρ', fr1, rfl, kp, Ag, F1, bl, inj⟩ := hd
    have own0 : ∀ q, ownP ρ w [] q → w.heap.size ≤ q := fun q hq => hq.elim id fun ⟨y, hy, _⟩ => (by cases hy)
    have f1 : Fresh w w1 := kp.mono own0
    have m1 : ((101, erB (.lit 0) (.lit 0) nilA) : Nat × ABlk) ∈ [(101, erB (.lit 0) (.lit 0) nilA), (100, erB brK (v 2) sl5)] := List.mem_cons_self ..
    have m2 : ((100, erB brK (v 2) sl5) : Nat × ABlk) ∈ [(101, erB (.lit 0) (.lit 0) nilA), (100, erB brK (v 2) sl5)] := List.mem_cons_of_mem _ (List.mem_singleton.2 rfl)
    have i1 : ρ'.i 1 = K := (Ag.i 1 (by decide)).trans (by rw [hρ]; rfl)
    have i2 : ρ'.i 2 = n := (Ag.i 2 (by decide)).trans (by rw [hρ]; rfl)
    have e5 : sl5.ev ρ' = slV A o l.length c := by rw [AV.ev_agree Ag sl5 (AV.low_in _ (by kernel_rfl)), hρ]; rfl
    have hR : (Blk.obj 24 [iV 0, iV 0, nilV]).at Tryd.prog w1 (ρ'.b 101) := (bl _ m1).2
    have hX : (Blk.obj 24 [iV (brK.ev ρ'), iV (ρ'.i 2), sl5.ev ρ']).at Tryd.prog w1 (ρ'.b 100) := (bl _ m2).2
    rw [ekey i1, i2, e5] at hX
    have gR := own0 _ (bl _ m1).1
    have gX := own0 _ (bl _ m2).1
    have hXR : ρ'.b 100 ≠ ρ'.b 101 := fun e => by
      have := inj _ m2 _ m1 e
      cases this
    have F1' : FA 4 31 (brT [2, 3, 4]) [] .normal [(1, ptrV (ρ'.b 100)), (2, ptrV (ρ'.b 101)), (14, slV A o l.length c)] fr1 := by rw [← e5]; exact F1
    refine (op_pure (x := slV A o 1000 c) F1' brIs brG brD (by decide) (fun tm htm => cut_wq brDo apUnder apSize w1 (htm (14, slV A o l.length c) (List.mem_of_getElem? (i := 2) rfl)) rfl (by omega) hcap (by omega))).trans fun g2 w2 hd2 => ?_
    obtain ⟨fr2, rfl, rfl, F2⟩ := hd2
    have F2' : FA 4 31 (brT [3, 4]) [] .normal [(1, ptrV (ρ'.b 100)), (2, ptrV (ρ'.b 101)), (15, slV A o 1000 c)] fr2 := F2.sub fun q hq => by
      simp only [List.mem_cons, List.not_mem_nil, or_false] at hq
      rcases hq with rfl | rfl | rfl
      · exact List.mem_cons_of_mem _ (List.mem_filter.2 ⟨List.mem_of_getElem? (i := 0) rfl, rfl⟩)
      · exact List.mem_cons_of_mem _ (List.mem_filter.2 ⟨List.mem_of_getElem? (i := 1) rfl, rfl⟩)
      · exact List.mem_cons_self ..
    obtain ⟨σ, hσ⟩ : ∃ σ : Env, σ = mkE [(1, kOf K), (2, n), (51, 1000), (52, c), (53, o), (54, l.length)] [(50, A), (61, ρ'.b 100), (62, ρ'.b 101)] [] := ⟨_, rfl⟩
    have s61 : σ.b 61 = ρ'.b 100 := by rw [hσ]; rfl
    have s62 : σ.b 62 = ρ'.b 101 := by rw [hσ]; rfl
    refine (pieceW (ρ := σ) brP [(62, erB (v 1) (brN (wayOf (kOf K))) (brS sl5 (wayOf (kOf K))))] (brEnd (wayOf (kOf K)) (stOf fr2)) rfl rfl (brEndLow _) (by unfold wayOf; split <;> (try split) <;> kernel_rfl) (F2'.rel (.inl rfl) [(1, ptr0 61), (2, ptr0 62), (15, sl5)] (by rw [hσ]; rfl) rfl) (brW_ok (by rw [hσ]; rfl)) (fun q hq => by cases hq) (fun q hq => ?_) ?_ one_nodup).trans fun g3 w3 hd3 => ?_
    · simp only [brP, List.mem_cons, List.not_mem_nil, or_false] at hq
      rcases hq with rfl | rfl
      · exact ⟨.obj 24 [iV (kOf K), iV n, slV A o l.length c], by show (Blk.obj 24 _).at Tryd.prog w2 (σ.b 61); rw [s61]; exact hX, rfl, by rw [hσ]; rfl⟩
      · exact ⟨.obj 24 [iV 0, iV 0, nilV], by show (Blk.obj 24 _).at Tryd.prog w2 (σ.b 62); rw [s62]; exact hR, rfl, rfl⟩
    · show [σ.b 61, σ.b 62].Nodup
      rw [s61, s62]
      exact List.nodup_cons.2 ⟨fun h => hXR (List.mem_singleton.1 h), one_nodup⟩
    · obtain ⟨ρ3, fr3, rfl, kp3, Ag3, F3, bl3⟩ := hd3
      have j1 : ρ3.i 1 = kOf K := (Ag3.i 1 (by decide)).trans (by rw [hσ]; rfl)
      have j2 : ρ3.i 2 = n := (Ag3.i 2 (by decide)).trans (by rw [hσ]; rfl)
      have j5 : sl5.ev ρ3 = slV A o 1000 c := by rw [AV.ev_agree Ag3 sl5 (AV.low_in _ (by kernel_rfl)), hσ]; rfl
      have b62 : ρ3.b 62 = ρ'.b 101 := (Ag3.b 62 (by decide)).trans s62
      have hR3 : (Blk.obj 24 [iV (ρ3.i 1), iV ((brN (wayOf (kOf K))).ev ρ3), (brS sl5 (wayOf (kOf K))).ev ρ3]).at Tryd.prog w3 (ρ3.b 62) := (bl3 _ (List.mem_singleton.2 rfl)).2
      rw [j1, brN_ev j2, brS_ev j5] at hR3
      have f3 : Fresh w w3 := Keeps.trans f1 (kp3.mono fun q hq => by
        have h1 := f1.size
        rcases hq with hq | ⟨y, hy, e⟩
        · exact Nat.le_trans h1 hq
        · simp only [brP, List.mem_cons, List.not_mem_nil, or_false] at hy
          rcases hy with rfl | rfl
          · have e : σ.b 61 = q := e
            rw [← e, s61]; exact gX
          · have e : σ.b 62 = q := e
            rw [← e, s62]; exact gR)
      refine (br_leave hR3 F3).mono fun g4 w4 hd4 => ?_
      obtain ⟨fr4, rfl, rfl, hL⟩ := hd4
      refine ⟨fr4, _, rfl, hL, f3, _, rfl, fun h => if_pos h, fun W hW => ?_⟩
      unfold lstOf
      by_cases h0 : kOf K = 0
      · rw [if_pos h0, if_pos h0]; exact ⟨.inl ⟨rfl, rfl⟩⟩
      · rw [if_neg h0, if_neg h0]
        have hlen : (l.take 1000).length = 1000 := by rw [List.length_take]; omega
        rcases hW.ex with ⟨e, _⟩ | ⟨A', o', c', e, _, hel'⟩
        · cases e
        · obtain ⟨rfl, rfl, rfl⟩ : A' = A ∧ o' = o ∧ c' = c := by
            have e : Value.slice (some ⟨A, o, none⟩) l.length c = .slice (some ⟨A', o', none⟩) l.length c' := e
            injection e with e1 e2 e3
            injection e1 with e1
            injection e1 with e1 e4 e5
            exact ⟨e1.symm, e4.symm, e3.symm⟩
          refine ⟨.inr ⟨A', o', c', by rw [hlen], by rw [hlen]; omega, fun i y hi => hel' i y ?_⟩⟩
          rw [List.getElem?_take] at hi
          split at hi
          · exact hi
          · cases hi
end
end Go.Proofs.YtojifefdokekpaaDoor

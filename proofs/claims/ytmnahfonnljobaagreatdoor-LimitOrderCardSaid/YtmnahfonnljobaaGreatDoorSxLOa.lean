/-
  A limited future's calls: closed data. Conditions: none.
-/
import Derived.Test.YtmnahfonnljobaaGreatDoorSxLCtx
set_option maxRecDepth 100000
set_option linter.unusedVariables false
set_option linter.unusedSimpArgs false
namespace Go.Proofs.YtmnahfonnljobaaGreatDoor
open Go.Proofs.YtmnahfonnljobaaGreatDoor.SX Go.Conc

def v (n : Nat) : IE := .var n
noncomputable def i64 (e : IE) : AV := .int .i64 e
noncomputable def ptr0 (b : Nat) : AV := .ptr (some ⟨.dyn b, .lit 0⟩)
noncomputable def nilP : AV := .ptr none
noncomputable def TB : AV := .bool (.lit true)
noncomputable def cel (x : IE) : ABlk := .cells [i64 x, TB, .int .i32 (.lit 0), .int .u32 (.lit 0), .chan none] 155
noncomputable def lst (a b c : Nat) : ABlk := .cells [ptr0 a, ptr0 b, .slice (some ⟨.dyn c, .lit 0⟩) (.lit 65) (.lit 65)] 194
noncomputable def fut (s l : Nat) (x : IE) (e : AV) : ABlk := .cells [ptr0 s, ptr0 l, i64 x, e] 48
noncomputable def pls (n : Nat) : List AV := (List.replicate n [AV.nilFunc, i64 (.lit 0)]).flatten
noncomputable def plc0 : ABlk := .cells (pls 65) 236
noncomputable def cbF : AV := .func (.func 68) [] [ptr0 70, ptr0 77, ptr0 78]
noncomputable def plc1 : ABlk := .cells ([.nilFunc, i64 (.lit 0), cbF, i64 (.lit 0)] ++ pls 63) 236
noncomputable def rgF : AV := .func (.func 67) [] [ptr0 70, ptr0 79]
/-- A timer's blocks: what its future, its limited one and its slot hold. -/
noncomputable def tmB (fv fs fh gv : IE) (ge : AV) (gs gh sl : IE) : List (Nat × ABlk) :=
  [(60, fut 61 62 fv .nilIface), (61, cel fs), (62, lst 63 64 65), (63, cel (.lit 1)), (64, cel fh), (65, plc1), (70, .cells [ptr0 71] 43), (71, fut 72 73 gv ge), (72, cel gs), (73, lst 74 75 76), (74, cel (.lit 0)), (75, cel gh), (76, plc0), (77, .cells [ptr0 10] 62), (78, .cells [i64 (v 2), i64 (.lit 2)] 126), (79, .cells [i64 (v 3)] 2), (20, cel sl)]
noncomputable def ltE (b : Nat) : AV := .iface 129 (ptr0 b)
noncomputable def offS (i k : Nat) : AA := ⟨.dyn 10, addN (.plus (.tn (.lit 2)) (.times (.tn (v i)) (.lit 3))) k⟩
noncomputable def slB (i : Nat) : List (BE × Bool) := [(.cmp .lss (v i) (.lit 0), false), (.cmp .geq (v i) (.lit 16), false), (.cmp .lss (v i) (.lit 16), true), (.cmp .leq (.lit 0) (v i), true)]
noncomputable def slM (i : Nat) : List (AA × AV) := [(offS i 0, ptr0 20), (⟨.dyn 10, .lit 0⟩, ptr0 11)]
def tmK : List Nat := [60, 61, 62, 63, 64, 65, 70, 71, 72, 73, 74, 75, 76, 77, 78, 79, 20]
noncomputable def coE (st : Nat → Value) : AFrame := ⟨34, 16, tmpsOf 16 st [(0, ptr0 60), (1, nilP), (2, i64 (v 1)), (3, .nilIface)], [.code (bodyOf Tryz.f34)], [], .run, .normal⟩
theorem coLate (st : Nat → Value) : seeF (runZ [] [] 1165 tmK (cfg (coE st) [] (tmB (.lit 0) (.lit 0) (.lit 1) (.lit 0) (ltE 80) (.lit 3) (.lit (-1)) (.lit 4)))) [8] (fun _ => []) = some (⟨34, 16, [.code .ret], [], .run, .normal, [], tmB (v 1) (.lit 2) (.lit (-1)) (.lit 0) (ltE 80) (.lit 3) (.lit (-1)) (.lit 4), [TB]⟩, []) := by kernel_rfl
theorem coOpen (st : Nat → Value) : seeF (runZ (slB 2) (slM 2) 1938 tmK (cfg (coE st) [] (tmB (.lit 0) (.lit 0) (.lit 1) (.lit 0) .nilIface (.lit 0) (.lit 0) (.lit 2)))) [8] (fun _ => []) = some (⟨34, 16, [.code .ret], [], .run, .normal, [], tmB (v 1) (.lit 2) (.lit (-1)) (v 1) .nilIface (.lit 2) (.lit (-1)) (.lit 4), [TB]⟩, []) := by kernel_rfl
theorem coLateLow (st : Nat → Value) : cfgLow 100 (cfg (coE st) [] (tmB (.lit 0) (.lit 0) (.lit 1) (.lit 0) (ltE 80) (.lit 3) (.lit (-1)) (.lit 4))) = true := by kernel_rfl
theorem coOpenLow (st : Nat → Value) : cfgLow 100 (cfg (coE st) [] (tmB (.lit 0) (.lit 0) (.lit 1) (.lit 0) .nilIface (.lit 0) (.lit 0) (.lit 2))) = true := by kernel_rfl
theorem coO : (OO (slB 2) (slM 2)).low 100 = true := by kernel_rfl
theorem noO : (OO [] []).low 100 = true := by kernel_rfl
noncomputable def pkE (st : Nat → Value) : AFrame := ⟨24, 27, tmpsOf 27 st [(0, ptr0 71), (1, nilP)], [.code (bodyOf Tryz.f24)], [], .run, .normal⟩
noncomputable def pkT (l : List Nat) : List Item := [.code .ret, .code (pc (bodyOf Tryz.f24) l)]
theorem pkOpen (st : Nat → Value) : seeF (runZ [] [] 137 [71, 72] (cfg (pkE st) [] [(71, fut 72 73 (v 1) .nilIface), (72, cel (.lit 0))])) [4, 5, 6] (fun _ => []) = some (⟨24, 27, pkT [1,1], [], .run, .normal, [], [(71, fut 72 73 (v 1) .nilIface), (72, cel (.lit 0))], [i64 (.lit 0), .nilIface, .bool (.lit false)]⟩, []) := by kernel_rfl
theorem pkIn (st : Nat → Value) : seeF (runZ [] [] 134 [71, 72] (cfg (pkE st) [] [(71, fut 72 73 (v 1) .nilIface), (72, cel (.lit 2))])) [4, 5, 6] (fun _ => []) = some (⟨24, 27, [.code .ret], [], .run, .normal, [], [(71, fut 72 73 (v 1) .nilIface), (72, cel (.lit 2))], [i64 (v 1), .nilIface, .bool (.lit true)]⟩, []) := by kernel_rfl
theorem pkLate (st : Nat → Value) : seeF (runZ [] [] 134 [71, 72] (cfg (pkE st) [] [(71, fut 72 73 (.lit 0) (ltE 80)), (72, cel (.lit 3))])) [4, 5, 6] (fun _ => []) = some (⟨24, 27, [.code .ret], [], .run, .normal, [], [(71, fut 72 73 (.lit 0) (ltE 80)), (72, cel (.lit 3))], [i64 (.lit 0), ltE 80, .bool (.lit true)]⟩, []) := by kernel_rfl
end Go.Proofs.YtmnahfonnljobaaGreatDoor
/-
  A timer's memory; Complete and Peek as contracts. Conditions: none.
-/
set_option maxRecDepth 100000
set_option linter.unusedVariables false
set_option linter.unusedSimpArgs false
namespace Go.Proofs.YtmnahfonnljobaaGreatDoor
open Go.Proofs.YtmnahfonnljobaaGreatDoor.SX Go.Conc

def ptrV (b : Nat) : Value := .pointer (some ⟨b, 0, none⟩)
def iV (n : Int) : Value := .int .i64 n
def celV (n : Int) : Blk := .obj 155 [iV n, .bool true, .int .i32 0, .int .u32 0, .chan none]
def plsV (n : Nat) : List Value := (List.replicate n [Value.nilFunc, iV 0]).flatten
def lstV (a b c : Nat) : Blk := .obj 194 [ptrV a, ptrV b, .slice (some ⟨c, 0, none⟩) 65 65]
def cbV (a b c : Nat) : Value := .func (.func 68) #[] #[ptrV a, ptrV b, ptrV c]
def rgV (a b : Nat) : Value := .func (.func 67) #[] #[ptrV a, ptrV b]
def ltV (b : Nat) : Value := .iface 129 (ptrV b)
/-- A timer: where its blocks lie; when it is due; what its future, its limited one and its slot hold. -/
structure TM where
  b : Nat → Nat
  D : Int
  fv : Int
  fs : Int
  fh : Int
  gv : Int
  ge : Value
  gs : Int
  gh : Int
  sl : Int
/-- What lies at its roles; the clock lies at C. -/
def tmL (C i : Nat) (t : TM) : Nat → Option (Nat × Blk)
  | 1 => some (t.b 1, .obj 48 [ptrV (t.b 2), ptrV (t.b 3), iV t.fv, .nilIface])
  | 2 => some (t.b 2, celV t.fs)
  | 3 => some (t.b 3, lstV (t.b 4) (t.b 5) (t.b 6))
  | 4 => some (t.b 4, celV 1)
  | 5 => some (t.b 5, celV t.fh)
  | 6 => some (t.b 6, .obj 236 ([.nilFunc, iV 0, cbV (t.b 7) (t.b 14) (t.b 15), iV 0] ++ plsV 63))
  | 7 => some (t.b 7, .obj 43 [ptrV (t.b 8)])
  | 8 => some (t.b 8, .obj 48 [ptrV (t.b 9), ptrV (t.b 10), iV t.gv, t.ge])
  | 9 => some (t.b 9, celV t.gs)
  | 10 => some (t.b 10, lstV (t.b 11) (t.b 12) (t.b 13))
  | 11 => some (t.b 11, celV 0)
  | 12 => some (t.b 12, celV t.gh)
  | 13 => some (t.b 13, .obj 236 (plsV 65))
  | 14 => some (t.b 14, .obj 62 [ptrV C])
  | 15 => some (t.b 15, .obj 126 [iV i, iV 2])
  | 16 => some (t.b 16, .obj 2 [iV t.D])
  | 17 => some (t.b 17, celV t.sl)
  | _ => none
/-- The clock. -/
structure CK where
  C : Nat
  N : Nat
  B : Nat
  sl : Nat → Nat
  du : Nat → Nat
  fn : Nat → Value
def clkV (K : CK) : List Value := [ptrV K.N, ptrV K.B] ++ ((List.range 16).map fun j => [ptrV (K.sl j), ptrV (K.du j), K.fn j]).flatten
theorem clk_get (K : CK) {i : Nat} (h : i < 16) : (clkV K)[2 + i * 3]? = some (ptrV (K.sl i)) ∧ (clkV K)[2 + i * 3 + 1]? = some (ptrV (K.du i)) ∧ (clkV K)[2 + i * 3 + 2]? = some (K.fn i) := by
  have : i = 0 ∨ i = 1 ∨ i = 2 ∨ i = 3 ∨ i = 4 ∨ i = 5 ∨ i = 6 ∨ i = 7 ∨ i = 8 ∨ i = 9 ∨ i = 10 ∨ i = 11 ∨ i = 12 ∨ i = 13 ∨ i = 14 ∨ i = 15 := by omega
  rcases this with rfl | rfl | rfl | rfl | rfl | rfl | rfl | rfl | rfl | rfl | rfl | rfl | rfl | rfl | rfl | rfl <;> exact ⟨rfl, rfl, rfl⟩

/-! ### Blocks in their order -/
def tmR (n i : Nat) : List (Nat × ABlk) → List (Role × Nat × ABlk)
  | [] => []
  | x :: l => ((n, i), x.1, x.2) :: tmR (n + 1) i l
theorem tmR_snd {i : Nat} : ∀ (l : List (Nat × ABlk)) (n : Nat), (tmR n i l).map (·.2) = l
  | [], _ => rfl
  | x :: l, n => by
    show x :: (tmR (n + 1) i l).map (·.2) = _
    rw [tmR_snd l]
theorem tmR_fst {i i' : Nat} : ∀ {l : List (Nat × ABlk)} {n : Nat} {r : Role}, r ∈ (tmR n i l).map (·.1) → n ≤ r.1 ∧ r.1 < n + l.length ∧ r.2 = i
  | [], _, _, h => by cases h
  | x :: l, n, r, h => by
    rcases List.mem_cons.1 h with rfl | h
    · exact ⟨Nat.le_refl _, by simp, rfl⟩
    · obtain ⟨h1, h2, h3⟩ := tmR_fst (i' := i') h
      simp only [List.length_cons]
      exact ⟨by omega, by omega, h3⟩
theorem tmR_nodup {i : Nat} : ∀ (l : List (Nat × ABlk)) (n : Nat), ((tmR n i l).map (·.1)).Nodup
  | [], _ => List.nodup_nil
  | x :: l, n => by
    show ((n, i) :: (tmR (n + 1) i l).map (·.1)).Nodup
    rw [List.nodup_cons]
    refine ⟨fun h => ?_, tmR_nodup l _⟩
    have := (tmR_fst (i' := i) h).1
    simp at this
    omega
theorem find_tm {ρ : Env} {i : Nat} : ∀ (l : List (Nat × ABlk)) (n k : Nat), n ≤ k → (postL ρ (tmR n i l)).find? (fun x => decide (x.1 = (k, i))) = (l[k - n]?).map fun x => ((k, i), ρ.b x.1, blkOf ρ x.2)
  | [], n, k, h => rfl
  | x :: l, n, k, h => by
    show List.find? _ (((n, i), ρ.b x.1, blkOf ρ x.2) :: postL ρ (tmR (n + 1) i l)) = _
    by_cases e : n = k
    · subst e
      simp
    · rw [List.find?_cons_of_neg (by simp [e]), find_tm l (n + 1) k (by omega), show k - n = (k - (n + 1)) + 1 from by omega]
      rfl
theorem find_tm_ne {ρ : Env} {i : Nat} {r : Role} : ∀ (l : List (Nat × ABlk)) (n : Nat), (r.2 ≠ i ∨ r.1 < n ∨ n + l.length ≤ r.1) → (postL ρ (tmR n i l)).find? (fun x => decide (x.1 = r)) = none
  | [], n, h => rfl
  | x :: l, n, h => by
    show List.find? _ (((n, i), ρ.b x.1, blkOf ρ x.2) :: postL ρ (tmR (n + 1) i l)) = _
    have e : ((n, i) : Role) ≠ r := by
      rintro rfl
      rcases h with h | h | h
      · exact h rfl
      · simp at h
      · simp at h
        omega
    rw [List.find?_cons_of_neg (by simp [e])]
    refine find_tm_ne l (n + 1) ?_
    simp only [List.length_cons] at h
    rcases h with h | h | h
    · exact .inl h
    · exact .inr (.inl (by omega))
    · exact .inr (.inr (by omega))
theorem relay_tm {L : Lay} {ρ : Env} {i n k : Nat} {d : List Role} {l : List (Nat × ABlk)} (h : n ≤ k) {x : Nat × ABlk} (hx : l[k - n]? = some x) : relay L d (postL ρ (tmR n i l)) (k, i) = some (ρ.b x.1, blkOf ρ x.2) := by
  unfold relay
  rw [find_tm l n k h, hx]
  rfl
theorem relay_ne {L : Lay} {ρ : Env} {i n : Nat} {l l' : List (Nat × ABlk)} {r : Role} (hl : l'.length = l.length) (h : r.2 ≠ i ∨ r.1 < n ∨ n + l.length ≤ r.1) : relay L ((tmR n i l').map (·.1)) (postL ρ (tmR n i l)) r = L r := by
  unfold relay
  rw [find_tm_ne l n h]
  dsimp only
  rw [if_neg]
  intro hm
  obtain ⟨h1, h2, h3⟩ := tmR_fst (i' := i) hm
  rcases h with h | h | h
  · exact h h3
  · omega
  · omega
/-- What closed data say of blocks that lie low. -/
def lowC : ABlk → Bool
  | .cells l _ => AV.lows 100 l
  | _ => false
theorem blk_agree {ρ ρ' : Env} (A : Agree (Below 100) ρ ρ') {a : ABlk} (h : lowC a = true) : blkOf ρ' a = blkOf ρ a := by
  cases a with
  | cells l e =>
    show Blk.obj e (AV.evs ρ' l) = Blk.obj e (AV.evs ρ l)
    rw [AV.evs_agree A l (AV.lows_in l h)]
  | _ => cases h
theorem post_agree {ρ ρ' : Env} (A : Agree (Below 100) ρ ρ') {i : Nat} : ∀ (l : List (Nat × ABlk)) (n : Nat), l.all (fun x => Nat.blt x.1 100 && lowC x.2) = true → postL ρ' (tmR n i l) = postL ρ (tmR n i l)
  | [], _, _ => rfl
  | x :: l, n, h => by
    simp only [List.all_cons, Bool.and_eq_true] at h
    show ((n, i), ρ'.b x.1, blkOf ρ' x.2) :: postL ρ' (tmR (n + 1) i l) = ((n, i), ρ.b x.1, blkOf ρ x.2) :: postL ρ (tmR (n + 1) i l)
    rw [post_agree A l (n + 1) h.2, blk_agree A h.1.2, A.b x.1 (Nat.blt_eq.mp h.1.1)]
end Go.Proofs.YtmnahfonnljobaaGreatDoor
/-
  Complete as a contract. Conditions: none.
-/
set_option maxRecDepth 100000
set_option linter.unusedVariables false
set_option linter.unusedSimpArgs false
namespace Go.Proofs.YtmnahfonnljobaaGreatDoor
open Go.Proofs.YtmnahfonnljobaaGreatDoor.SX Go.Conc

/-- The assignment at a timer. -/
noncomputable def tmE (is : List (Nat × Int)) (bs : List (Nat × Nat)) (C N : Nat) (t : TM) : Env := mkE is (bs ++ [(10, C), (11, N), (60, t.b 1), (61, t.b 2), (62, t.b 3), (63, t.b 4), (64, t.b 5), (65, t.b 6), (70, t.b 7), (71, t.b 8), (72, t.b 9), (73, t.b 10), (74, t.b 11), (75, t.b 12), (76, t.b 13), (77, t.b 14), (78, t.b 15), (79, t.b 16), (20, t.b 17)]) []
/-- A timer's roles. -/
def TmAt (L : Lay) (C i : Nat) (t : TM) : Prop := ∀ k, 1 ≤ k → k ≤ 17 → L (k, i) = tmL C i t k
/-- All else stays. -/
def Rest (L L' : Lay) (i : Nat) : Prop := ∀ k j, j ≠ i ∨ k < 1 ∨ 18 ≤ k → L' (k, j) = L (k, j)
theorem forall17 {p : Nat → Prop} (h : ∀ k, k < 17 → p (k + 1)) {k : Nat} (h1 : 1 ≤ k) (h2 : k ≤ 17) : p k := by
  obtain ⟨j, rfl⟩ : ∃ j, k = j + 1 := ⟨k - 1, by omega⟩
  exact h j (by omega)

section
variable {base : Nat} {W0 w : World} {L : Lay} {cs : List Frame} {fr : Frame} {C i : Nat} {t : TM} {val : Int}
/-- From a timer's blocks to its blocks. -/
theorem tm_post {ρ ρ' : Env} (A : Agree (Below 100) ρ ρ') {l l' : List (Nat × ABlk)} (hl : l.length = 17) (hl' : l'.length = 17) (hlow : l.all (fun x => Nat.blt x.1 100 && lowC x.2) = true) {t' : TM} (h : ∀ k, k < 17 → (l[k]?).map (fun x => (ρ.b x.1, blkOf ρ x.2)) = tmL C i t' (k + 1)) :
    TmAt (relay L ((tmR 1 i l').map (·.1)) (postL ρ' (tmR 1 i l))) C i t' ∧ Rest L (relay L ((tmR 1 i l').map (·.1)) (postL ρ' (tmR 1 i l))) i := by
  rw [post_agree A l 1 hlow]
  refine ⟨fun k h1 h2 => ?_, fun k j hk => relay_ne (by rw [hl, hl']) (by rw [hl]; exact hk)⟩
  have hk := h (k - 1) (by omega)
  rw [show k - 1 + 1 = k from by omega] at hk
  have hlt : k - 1 < l.length := by omega
  rw [List.getElem?_eq_getElem hlt] at hk
  rw [relay_tm h1 (List.getElem?_eq_getElem hlt), ← hk]
  rfl
theorem tm_pre {ρ : Env} {l : List (Nat × ABlk)} (hl : l.length = 17) (T : TmAt L C i t) (h : ∀ k, k < 17 → ∀ x, l[k]? = some x → ∃ b, tmL C i t (k + 1) = some (ρ.b x.1, b) ∧ AbsIs Tryz.prog ρ x.2 b) : PreL L ρ (tmR 1 i l) := by
  have key : ∀ (l : List (Nat × ABlk)) (n : Nat), (∀ k x, l[k]? = some x → ∃ b, L (n + k, i) = some (ρ.b x.1, b) ∧ AbsIs Tryz.prog ρ x.2 b) → PreL L ρ (tmR n i l) := by
    intro l
    induction l with
    | nil => intro n _ x hx; cases hx
    | cons y l ih =>
      intro n hh x hx
      rcases List.mem_cons.1 hx with rfl | hx
      · exact hh 0 y rfl
      · refine ih (n + 1) (fun k z hz => ?_) x hx
        have := hh (k + 1) z (by simpa using hz)
        rwa [show n + (k + 1) = n + 1 + k from by omega] at this
  refine key l 1 fun k x hx => ?_
  have hk : k < 17 := by
    have := (List.getElem?_eq_some_iff.1 hx).1
    omega
  obtain ⟨b, h1, h2⟩ := h k hk x hx
  exact ⟨b, by rw [show 1 + k = k + 1 from by omega, T (k + 1) (by omega) (by omega)]; exact h1, h2⟩

theorem or17 {k : Nat} (h : k < 17) : k = 0 ∨ k = 1 ∨ k = 2 ∨ k = 3 ∨ k = 4 ∨ k = 5 ∨ k = 6 ∨ k = 7 ∨ k = 8 ∨ k = 9 ∨ k = 10 ∨ k = 11 ∨ k = 12 ∨ k = 13 ∨ k = 14 ∨ k = 15 ∨ k = 16 := by omega
abbrev CoIn (t : TM) (val : Int) (fr : Frame) : Prop := FA 34 16 [.code (bodyOf Tryz.f34)] [] .normal [(0, ptrV (t.b 1)), (1, .pointer none), (2, iV val), (3, .nilIface)] fr
abbrev CoRet (fr : Frame) : Prop := FA 34 16 [.code .ret] [] .normal [(8, .bool true)] fr
/-- Waiting; in time; late; late and filled. -/
def TM.waits (t : TM) : TM := { t with fv := 0, fs := 0, fh := 1, gv := 0, ge := .nilIface, gs := 0, gh := 0, sl := 2 }
def TM.full (t : TM) (val : Int) : TM := { t with fv := val, fs := 2, fh := -1, gv := val, ge := .nilIface, gs := 2, gh := -1, sl := 4 }
def TM.late (t : TM) (b : Nat) : TM := { t with fv := 0, fs := 0, fh := 1, gv := 0, ge := ltV b, gs := 3, gh := -1, sl := 4 }
def TM.after (t : TM) (val : Int) (b : Nat) : TM := { t with fv := val, fs := 2, fh := -1, gv := 0, ge := ltV b, gs := 3, gh := -1, sl := 4 }
theorem co_late {b : Nat} (o : On base W0 L w) (T : TmAt L C i (t.late b)) (hf : CoIn t val fr) :
    Go1 base (G fr cs) w fun g' w' => ∃ fr' L', g' = G fr' cs ∧ On base W0 L' w' ∧ TmAt L' C i (t.after val b) ∧ Rest L L' i ∧ CoRet fr' := by
  let ρ : Env := tmE [(1, val), (2, i), (3, t.D)] [(80, b)] C 0 t
  refine Walk.weaken (fun g' w' hd => ?_) (walkZ (frs := []) (callers := []) (bs := []) (mem := []) (lives := fun _ => []) (cs := cs) o (tmR 1 i (tmB (.lit 0) (.lit 0) (.lit 1) (.lit 0) (ltE 80) (.lit 3) (.lit (-1)) (.lit 4))) (tmR 1 i (tmB (v 1) (.lit 2) (.lit (-1)) (.lit 0) (ltE 80) (.lit 3) (.lit (-1)) (.lit 4))) (by rw [tmR_snd]; exact coLate (stOf fr)) (tmR_snd _ _).symm rfl (by rw [tmR_snd]; exact coLateLow _) noO (ρ := ρ)
    (hf.rel (.inl rfl) [(0, ptr0 60), (1, nilP), (2, i64 (v 1)), (3, .nilIface)] rfl rfl) trivial (fun x hx => by cases hx) (fun x hx => by cases hx) (tm_pre rfl T fun k hk x hx => ?_) (tmR_nodup _ _) ?_)
  · obtain ⟨ρ1, fr1, frs1, rfl, o1, Ag, f1, fs1⟩ := hd
    obtain rfl := fats_none fs1
    obtain ⟨T1, R1⟩ := tm_post (L := L) (C := C) (t' := t.after val b) Ag (l := tmB (v 1) (.lit 2) (.lit (-1)) (.lit 0) (ltE 80) (.lit 3) (.lit (-1)) (.lit 4)) (l' := tmB (.lit 0) (.lit 0) (.lit 1) (.lit 0) (ltE 80) (.lit 3) (.lit (-1)) (.lit 4)) rfl rfl (by kernel_rfl) (fun k hk => by
      rcases or17 hk with rfl | rfl | rfl | rfl | rfl | rfl | rfl | rfl | rfl | rfl | rfl | rfl | rfl | rfl | rfl | rfl | rfl <;> rfl)
    exact ⟨fr1, _, rfl, o1, T1, R1, f1⟩
  · rcases or17 hk with rfl | rfl | rfl | rfl | rfl | rfl | rfl | rfl | rfl | rfl | rfl | rfl | rfl | rfl | rfl | rfl | rfl <;> (obtain rfl := Option.some.inj hx; exact ⟨_, rfl, rfl, rfl⟩)
  · rw [show (tmR 1 i (tmB (v 1) (.lit 2) (.lit (-1)) (.lit 0) (ltE 80) (.lit 3) (.lit (-1)) (.lit 4))).map (·.2.1) = tmK from rfl]
    decide
theorem offS_ev {ρ : Env} {x n : Nat} (h : ρ.i x = n) (k : Nat) (hk : k < 3) : (offS x k).ev ρ = ⟨ρ.b 10, 2 + n * 3 + k, none⟩ := by
  have e0 : (IE.plus (.tn (.lit 2)) (.times (.tn (v x)) (.lit 3))).ev ρ = ((2 + n * 3 : Nat) : Int) := by
    simp only [IE.ev, v, h]
    omega
  have e1 : (addN (.plus (.tn (.lit 2)) (.times (.tn (v x)) (.lit 3))) k).ev ρ = ((2 + n * 3 + k : Nat) : Int) := by
    unfold addN
    dsimp only
    split
    · rename_i hk0
      subst hk0
      exact e0
    · show ((((IE.plus (.tn (.lit 2)) (.times (.tn (v x)) (.lit 3))).ev ρ).toNat : Nat) : Int) + (k : Int) = _
      rw [e0]
      omega
  show (⟨ρ.b 10, ((addN (.plus (.tn (.lit 2)) (.times (.tn (v x)) (.lit 3))) k).ev ρ).toNat, none⟩ : Addr) = _
  rw [e1]
  rfl
theorem slB_ok {ρ : Env} {x n : Nat} (h : ρ.i x = n) (hn : n < 16) : ∀ p ∈ slB x, p.1.ev ρ = p.2 := by
  intro p hp
  simp only [slB, List.mem_cons, List.not_mem_nil, or_false] at hp
  rcases hp with rfl | rfl | rfl | rfl
  · show decide (ρ.i x < 0) = false
    rw [h]; exact decide_eq_false (by omega)
  · show decide (ρ.i x ≥ 16) = false
    rw [h]; exact decide_eq_false (by omega)
  · show decide (ρ.i x < 16) = true
    rw [h]; exact decide_eq_true (by omega)
  · show decide ((0 : Int) ≤ ρ.i x) = true
    rw [h]; exact decide_eq_true (by omega)
theorem no_zero {i n x : Nat} {l : List (Nat × ABlk)} : ((0, x) : Role) ∉ (tmR (n + 1) i l).map (·.1) := fun h => by
  have := (tmR_fst (i' := i) h).1
  simp at this
theorem co_open {K : CK} (o : On base W0 L w) (hi : i < 16) (hC : L (0, 0) = some (K.C, .obj 72 (clkV K))) (hs : K.sl i = t.b 17) (T : TmAt L K.C i t.waits) (hf : CoIn t val fr) :
    Go1 base (G fr cs) w fun g' w' => ∃ fr' L', g' = G fr' cs ∧ On base W0 L' w' ∧ TmAt L' K.C i (t.full val) ∧ Rest L L' i ∧ CoRet fr' := by
  let ρ : Env := tmE [(1, val), (2, i), (3, t.D)] [] K.C K.N t
  refine Walk.weaken (fun g' w' hd => ?_) (walkZ (frs := []) (callers := []) (bs := slB 2) (mem := slM 2) (lives := fun _ => []) (cs := cs) o (tmR 1 i (tmB (.lit 0) (.lit 0) (.lit 1) (.lit 0) .nilIface (.lit 0) (.lit 0) (.lit 2))) (tmR 1 i (tmB (v 1) (.lit 2) (.lit (-1)) (v 1) .nilIface (.lit 2) (.lit (-1)) (.lit 4))) (by rw [tmR_snd]; exact coOpen (stOf fr)) (tmR_snd _ _).symm rfl (by rw [tmR_snd]; exact coOpenLow _) coO (ρ := ρ)
    (hf.rel (.inl rfl) [(0, ptr0 60), (1, nilP), (2, i64 (v 1)), (3, .nilIface)] rfl rfl) trivial (slB_ok rfl hi) (fun x hx => ?_) (tm_pre rfl T fun k hk x hx => ?_) (tmR_nodup _ _) ?_)
  · obtain ⟨ρ1, fr1, frs1, rfl, o1, Ag, f1, fs1⟩ := hd
    obtain rfl := fats_none fs1
    obtain ⟨T1, R1⟩ := tm_post (L := L) (C := K.C) (t' := t.full val) Ag (l := tmB (v 1) (.lit 2) (.lit (-1)) (v 1) .nilIface (.lit 2) (.lit (-1)) (.lit 4)) (l' := tmB (.lit 0) (.lit 0) (.lit 1) (.lit 0) .nilIface (.lit 0) (.lit 0) (.lit 2)) rfl rfl (by kernel_rfl) (fun k hk => by
      rcases or17 hk with rfl | rfl | rfl | rfl | rfl | rfl | rfl | rfl | rfl | rfl | rfl | rfl | rfl | rfl | rfl | rfl | rfl <;> rfl)
    exact ⟨fr1, _, rfl, o1, T1, R1, f1⟩
  · simp only [slM, List.mem_cons, List.not_mem_nil, or_false] at hx
    rcases hx with rfl | rfl
    · refine .inl ⟨(0, 0), _, hC, no_zero, ?_⟩
      rw [offS_ev (ρ := ρ) (n := i) rfl 0 (by omega)]
      show (clkV K)[2 + i * 3]? = some (ptrV (t.b 17))
      rw [(clk_get K hi).1, hs]
    · exact .inl ⟨(0, 0), _, hC, no_zero, rfl⟩
  · rcases or17 hk with rfl | rfl | rfl | rfl | rfl | rfl | rfl | rfl | rfl | rfl | rfl | rfl | rfl | rfl | rfl | rfl | rfl <;> (obtain rfl := Option.some.inj hx; exact ⟨_, rfl, rfl, rfl⟩)
  · rw [show (tmR 1 i (tmB (v 1) (.lit 2) (.lit (-1)) (v 1) .nilIface (.lit 2) (.lit (-1)) (.lit 4))).map (·.2.1) = tmK from rfl]
    decide
end
end Go.Proofs.YtmnahfonnljobaaGreatDoor
/-
  The clock's look for who rings next. Conditions: none.
-/
set_option maxRecDepth 100000
set_option linter.unusedVariables false
set_option linter.unusedSimpArgs false
namespace Go.Proofs.YtmnahfonnljobaaGreatDoor
open Go.Proofs.YtmnahfonnljobaaGreatDoor.SX Go.Conc

noncomputable def lkB : Code := pc (bodyOf Tryz.f78) [1,1,1,1,0,1,0,0]
noncomputable def lkT : List Item := [.code lkB, .inLoop lkB, .inBlock 0, .code (pc (bodyOf Tryz.f78) [1,1,1,1,1])]
noncomputable def lkE (st : Nat → Value) : AFrame := ⟨78, 57, tmpsOf 57 st [(0, ptr0 10), (1, nilP), (2, i64 (v 5))], [.code (bodyOf Tryz.f78)], [], .run, .normal⟩
noncomputable def lkH (f : Bool) (st : Nat → Value) : AFrame := ⟨78, 57, tmpsOf 57 st [(0, ptr0 10), (1, nilP), (2, i64 (v 5)), (6, ptr0 90), (8, ptr0 91), (9, i64 (v 7)), (10, .bool (.lit f)), (14, i64 (v 6))], lkT, [], .run, .normal⟩
noncomputable def lkL : List Nat := [0, 1, 2, 6, 8, 9, 10, 14]
noncomputable def lkM (s : Int) : List (AA × AV) := [(offS 6 0, ptr0 20), (offS 6 1, ptr0 40), (⟨.dyn 20, .lit 0⟩, i64 (.lit s)), (⟨.dyn 20, .lit 1⟩, TB), (⟨.dyn 40, .lit 0⟩, i64 (v 8)), (⟨.dyn 40, .lit 1⟩, TB)]
noncomputable def lkS (f : Bool) (l : IE) (nx : List (Nat × ABlk)) : Option (Seen × List Seen) := some (⟨78, 57, lkT, [], .run, .normal, [], nx, [ptr0 10, nilP, i64 (v 5), ptr0 90, ptr0 91, i64 l, .bool (.lit f), i64 (.op .add .i64 (v 6) (.lit 1))]⟩, [])
noncomputable def tmrB (b : Nat) (x y : IE) : Nat × ABlk := (b, .cells [i64 x, i64 y] 126)
noncomputable def dueB (l : List (BE × Bool)) : List (BE × Bool) := slB 6 ++ l
theorem lkIn (st : Nat → Value) : seeF (runZ [] [(⟨.dyn 10, .lit 0⟩, ptr0 11)] 24 [100, 101] (cfg (lkE st) [] [])) lkL (fun _ => []) = some (⟨78, 57, lkT, [], .run, .normal, [], [tmrB 100 (.lit 0) (.lit 0), tmrB 101 (.lit 0) (.lit 0)], [ptr0 10, nilP, i64 (v 5), ptr0 100, ptr0 101, i64 (.lit 0), .bool (.lit false), i64 (.lit 0)]⟩, []) := by kernel_rfl
theorem lkOff (f : Bool) (s : Bool) (st : Nat → Value) : seeF (runZ (slB 6) (lkM (Bool.rec 0 4 s)) 130 [] (cfg (lkH f st) [] [])) lkL (fun _ => []) = lkS f (v 7) [] := by cases f <;> cases s <;> kernel_rfl
theorem lkFar (f : Bool) (st : Nat → Value) : seeF (runZ (dueB [(.cmp .leq (v 8) (v 5), false)]) (lkM 2) 250 [] (cfg (lkH f st) [] [])) lkL (fun _ => []) = lkS f (v 7) [] := by cases f <;> kernel_rfl
theorem lkWorse (st : Nat → Value) : seeF (runZ (dueB [(.cmp .leq (v 8) (v 5), true), (.cmp .lss (v 8) (v 7), false)]) (lkM 2) 250 [] (cfg (lkH true st) [] [])) lkL (fun _ => []) = lkS true (v 7) [] := by kernel_rfl
theorem lkNear (f : Bool) (st : Nat → Value) : seeF (runZ (dueB [(.cmp .leq (v 8) (v 5), true), (.cmp .lss (v 8) (v 7), true)]) (lkM 2) 258 [91] (cfg (lkH f st) [] [tmrB 91 (v 62) (v 63)])) lkL (fun _ => []) = lkS true (v 8) [tmrB 91 (v 6) (.lit 2)] := by cases f <;> kernel_rfl
theorem lkFirst (st : Nat → Value) : seeF (runZ (dueB [(.cmp .leq (v 8) (v 5), true)]) (lkM 2) 258 [91] (cfg (lkH false st) [] [tmrB 91 (v 62) (v 63)])) lkL (fun _ => []) = lkS true (v 8) [tmrB 91 (v 6) (.lit 2)] := by kernel_rfl
theorem lkHLow (f : Bool) (st : Nat → Value) : cfgLow 100 (cfg (lkH f st) [] []) = true := by cases f <;> kernel_rfl
theorem lkHLow' (f : Bool) (st : Nat → Value) : cfgLow 100 (cfg (lkH f st) [] [tmrB 91 (v 62) (v 63)]) = true := by cases f <;> kernel_rfl
theorem lkELow (st : Nat → Value) : cfgLow 100 (cfg (lkE st) [] []) = true := by kernel_rfl
theorem lkEnd (f : Bool) (st : Nat → Value) : seeF (runZ [(.cmp .lss (v 6) (.lit 16), false)] [] 14 [90, 91] (cfg (lkH f st) [] [tmrB 91 (v 62) (v 63), tmrB 90 (v 60) (v 61)])) [6, 7] (fun _ => []) = some (⟨78, 57, [.code .ret], [], .run, .normal, [], [tmrB 90 (v 62) (v 63), tmrB 91 (v 62) (v 63)], [ptr0 90, .bool (.lit f)]⟩, []) := by cases f <;> kernel_rfl
theorem lkEndLow (f : Bool) (st : Nat → Value) : cfgLow 100 (cfg (lkH f st) [] [tmrB 91 (v 62) (v 63), tmrB 90 (v 60) (v 61)]) = true := by cases f <;> kernel_rfl
end Go.Proofs.YtmnahfonnljobaaGreatDoor
/-
  The clock's look as a contract. Conditions: none.
-/
set_option maxRecDepth 100000
set_option linter.unusedVariables false
set_option linter.unusedSimpArgs false
namespace Go.Proofs.YtmnahfonnljobaaGreatDoor
open Go.Proofs.YtmnahfonnljobaaGreatDoor.SX Go.Conc

theorem fa_agree {ρ ρ' : Env} (A : Agree (Below 100) ρ ρ') {fn nt : Nat} {todo : List Item} {ds : List Deferred} {k : CallKind} {live : List Nat} {vals : List AV} {fr : Frame} (h : FA fn nt todo ds k (live.zip (AV.evs ρ' vals)) fr) (hl : AV.lows 100 vals = true) : FA fn nt todo ds k (live.zip (AV.evs ρ vals)) fr := by
  rw [AV.evs_agree A vals (AV.lows_in vals hl)] at h
  exact h
def tmrV (x y : Int) : Blk := .obj 126 [iV x, iV y]
/-- All but the look's own two. -/
def Keep2 (L L' : Lay) : Prop := ∀ r : Role, r ≠ (0, 3) → r ≠ (0, 4) → L' r = L r
theorem Keep2.trans {L L1 L2 : Lay} (h : Keep2 L L1) (h' : Keep2 L1 L2) : Keep2 L L2 := fun r a b => (h' r a b).trans (h r a b)
theorem keep_relay {L : Lay} {d : List Role} {new : List (Role × Nat × Blk)} (hd : ∀ r ∈ d, r = (0, 3) ∨ r = (0, 4)) (hn : ∀ x ∈ new, x.1 = (0, 3) ∨ x.1 = (0, 4)) : Keep2 L (relay L d new) := by
  intro r h3 h4
  unfold relay
  rw [List.find?_eq_none.2 fun x hx => by
    have := hn x hx
    simp only [decide_eq_true_eq]
    rintro rfl
    rcases this with h | h
    · exact h3 h
    · exact h4 h]
  dsimp only
  rw [if_neg fun h => (hd r h).elim h3 h4]
/-- A slot: its state, when it is due. -/
structure SlotAt (L : Lay) (K : CK) (i : Nat) (s d : Int) : Prop where
  s : L (17, i) = some (K.sl i, celV s)
  d : L (18, i) = some (K.du i, celV d)
abbrev LkIn (C : Nat) (now : Int) (fr : Frame) : Prop := FA 78 57 [.code (bodyOf Tryz.f78)] [] .normal [(0, ptrV C), (1, .pointer none), (2, iV now)] fr
abbrev LkAt (C : Nat) (now : Int) (B B2 : Nat) (le : Int) (f : Bool) (i : Int) (fr : Frame) : Prop := FA 78 57 lkT [] .normal [(0, ptrV C), (1, .pointer none), (2, iV now), (6, ptrV B), (8, ptrV B2), (9, iV le), (10, .bool f), (14, iV i)] fr
abbrev LkRet (B : Nat) (f : Bool) (fr : Frame) : Prop := FA 78 57 [.code .ret] [] .normal [(6, ptrV B), (7, .bool f)] fr
/-- What has been found among the first i. -/
def Found (s d : Nat → Int) (now : Int) (i : Nat) (f : Bool) (x y : Int) : Prop := (f = true → ∃ j, j < i ∧ s j = 2 ∧ d j ≤ now ∧ x = j ∧ y = 2) ∧ (f = false → ∀ j, j < i → ¬ (s j = 2 ∧ d j ≤ now))

section
variable {base : Nat} {W0 w : World} {L : Lay} {cs : List Frame} {fr : Frame} {K : CK} {now : Int} {s d : Nat → Int}
noncomputable def lkEnv (C N B B2 : Nat) (now le : Int) (i : Nat) (d x y x' y' : Int) (S D : Nat) : Env := mkE [(5, now), (6, i), (7, le), (8, d), (60, x'), (61, y'), (62, x), (63, y)] [(10, C), (11, N), (20, S), (40, D), (90, B), (91, B2)] []
theorem lk_mem {B B2 : Nat} {le : Int} {i : Nat} {x y x' y' : Int} (hi : i < 16) (hC : L (0, 0) = some (K.C, .obj 72 (clkV K))) (hs : SlotAt L K i (s i) (d i)) {dr : List Role} (hdr : ∀ r ∈ dr, r = (0, 3) ∨ r = (0, 4)) (sv : Int) (hsv : s i = sv) : ∀ p ∈ lkM sv, MemO L dr base W0 (lkEnv K.C K.N B B2 now le i (d i) x y x' y' (K.sl i) (K.du i)) p := by
  intro p hp
  have n1 : ((0, 0) : Role) ∉ dr := fun h => by rcases hdr _ h with h | h <;> cases h
  have n2 : ∀ k, ((k + 1, i) : Role) ∉ dr := fun k h => by rcases hdr _ h with h | h <;> cases h
  simp only [lkM, List.mem_cons, List.not_mem_nil, or_false] at hp
  rcases hp with rfl | rfl | rfl | rfl | rfl | rfl
  · refine .inl ⟨(0, 0), _, hC, n1, ?_⟩
    rw [offS_ev (n := i) rfl 0 (by omega)]
    exact (clk_get K hi).1
  · refine .inl ⟨(0, 0), _, hC, n1, ?_⟩
    rw [offS_ev (n := i) rfl 1 (by omega)]
    exact (clk_get K hi).2.1
  · subst hsv
    exact .inl ⟨(17, i), _, hs.s, n2 16, rfl⟩
  · exact .inl ⟨(17, i), _, hs.s, n2 16, rfl⟩
  · exact .inl ⟨(18, i), _, hs.d, n2 17, rfl⟩
  · exact .inl ⟨(18, i), _, hs.d, n2 17, rfl⟩
theorem lk_next {i : Nat} (h : i < 16) : iop .add .i64 (i : Int) 1 = ((i + 1 : Nat) : Int) := by
  show IntKind.wrap .i64 ((i : Int) + 1) = _
  rw [IntWalk.i64_in _ (by omega)]
  omega
end
end Go.Proofs.YtmnahfonnljobaaGreatDoor
/-
  The clock's look, whole. Conditions: none.
-/
set_option maxRecDepth 100000
set_option linter.unusedVariables false
set_option linter.unusedSimpArgs false
namespace Go.Proofs.YtmnahfonnljobaaGreatDoor
open Go.Proofs.YtmnahfonnljobaaGreatDoor.SX Go.Conc

section
variable {base : Nat} {W0 w : World} {L : Lay} {cs : List Frame} {fr : Frame} {K : CK} {now : Int} {s d : Nat → Int}
theorem hf_told {B B2 : Nat} {le : Int} {f : Bool} {i : Nat} {e x y x' y' : Int} {S D : Nat} (hf : LkAt K.C now B B2 le f i fr) : FrRel Tryz.prog (lkEnv K.C K.N B B2 now le i e x y x' y' S D) (lkH f (stOf fr)) fr := by
  cases f <;> exact hf.rel (.inl rfl) [(0, ptr0 10), (1, nilP), (2, i64 (v 5)), (6, ptr0 90), (8, ptr0 91), (9, i64 (v 7)), (10, .bool (.lit _)), (14, i64 (v 6))] rfl rfl
theorem lk_off {B B2 : Nat} {le : Int} {f : Bool} {i : Nat} (hi : i < 16) (hC : L (0, 0) = some (K.C, .obj 72 (clkV K))) (hs : SlotAt L K i (s i) (d i)) (h : s i = 0 ∨ s i = 4) (o : On base W0 L w) (hf : LkAt K.C now B B2 le f i fr) :
    Go1 base (G fr cs) w fun g' w' => ∃ fr', g' = G fr' cs ∧ On base W0 L w' ∧ LkAt K.C now B B2 le f ((i + 1 : Nat) : Int) fr' := by
  obtain ⟨z, hz⟩ : ∃ z : Bool, s i = Bool.rec 0 4 z := by
    rcases h with h | h
    · exact ⟨false, h⟩
    · exact ⟨true, h⟩
  refine Walk.weaken (fun g' w' hd => ?_) (walkZ (frs := []) (callers := []) (bs := slB 6) (mem := lkM (Bool.rec 0 4 z)) (lives := fun _ => []) (cs := cs) o [] [] (lkOff f z (stOf fr)) rfl rfl (lkHLow _ _) (by cases z <;> kernel_rfl) (ρ := lkEnv K.C K.N B B2 now le i (d i) 0 0 0 0 (K.sl i) (K.du i)) (hf_told hf) trivial (slB_ok rfl hi) (lk_mem hi hC hs (fun r hr => by cases hr) _ hz) (fun x hx => by cases hx) List.nodup_nil List.nodup_nil)
  obtain ⟨ρ1, fr1, frs1, rfl, o1, Ag, f1, fs1⟩ := hd
  obtain rfl := fats_none fs1
  have f2 := fa_agree Ag f1 (by cases f <;> kernel_rfl)
  refine ⟨fr1, rfl, ⟨o1.heap.sub fun r x e => e, o1.keeps, o1.le⟩, ?_⟩
  have e : iop .add .i64 (i : Int) 1 = ((i + 1 : Nat) : Int) := lk_next hi
  unfold LkAt
  rw [← e]
  exact f2
theorem lk_far {B B2 : Nat} {le : Int} {f : Bool} {i : Nat} (hi : i < 16) (hC : L (0, 0) = some (K.C, .obj 72 (clkV K))) (hs : SlotAt L K i (s i) (d i)) (h : s i = 2) (hd : ¬ d i ≤ now) (o : On base W0 L w) (hf : LkAt K.C now B B2 le f i fr) :
    Go1 base (G fr cs) w fun g' w' => ∃ fr', g' = G fr' cs ∧ On base W0 L w' ∧ LkAt K.C now B B2 le f ((i + 1 : Nat) : Int) fr' := by
  refine Walk.weaken (fun g' w' hd => ?_) (walkZ (frs := []) (callers := []) (bs := dueB [(.cmp .leq (v 8) (v 5), false)]) (mem := lkM 2) (lives := fun _ => []) (cs := cs) o [] [] (lkFar f (stOf fr)) rfl rfl (lkHLow _ _) (by kernel_rfl) (ρ := lkEnv K.C K.N B B2 now le i (d i) 0 0 0 0 (K.sl i) (K.du i)) (hf_told hf) trivial (fun p hp => ?_) (lk_mem hi hC hs (fun r hr => by cases hr) _ h) (fun x hx => by cases hx) List.nodup_nil List.nodup_nil)
  · obtain ⟨ρ1, fr1, frs1, rfl, o1, Ag, f1, fs1⟩ := hd
    obtain rfl := fats_none fs1
    have f2 := fa_agree Ag f1 (by cases f <;> kernel_rfl)
    refine ⟨fr1, rfl, ⟨o1.heap.sub fun r x e => e, o1.keeps, o1.le⟩, ?_⟩
    have e : iop .add .i64 (i : Int) 1 = ((i + 1 : Nat) : Int) := lk_next hi
    unfold LkAt
    rw [← e]
    exact f2
  · rcases List.mem_append.1 hp with hp | hp
    · exact slB_ok rfl hi p hp
    · obtain rfl := List.mem_singleton.1 hp
      exact decide_eq_false hd
theorem lk_worse {B B2 : Nat} {le : Int} {i : Nat} (hi : i < 16) (hC : L (0, 0) = some (K.C, .obj 72 (clkV K))) (hs : SlotAt L K i (s i) (d i)) (h : s i = 2) (hd : d i ≤ now) (hl : ¬ d i < le) (o : On base W0 L w) (hf : LkAt K.C now B B2 le true i fr) :
    Go1 base (G fr cs) w fun g' w' => ∃ fr', g' = G fr' cs ∧ On base W0 L w' ∧ LkAt K.C now B B2 le true ((i + 1 : Nat) : Int) fr' := by
  refine Walk.weaken (fun g' w' hd => ?_) (walkZ (frs := []) (callers := []) (bs := dueB [(.cmp .leq (v 8) (v 5), true), (.cmp .lss (v 8) (v 7), false)]) (mem := lkM 2) (lives := fun _ => []) (cs := cs) o [] [] (lkWorse (stOf fr)) rfl rfl (lkHLow _ _) (by kernel_rfl) (ρ := lkEnv K.C K.N B B2 now le i (d i) 0 0 0 0 (K.sl i) (K.du i)) (hf_told hf) trivial (fun p hp => ?_) (lk_mem hi hC hs (fun r hr => by cases hr) _ h) (fun x hx => by cases hx) List.nodup_nil List.nodup_nil)
  · obtain ⟨ρ1, fr1, frs1, rfl, o1, Ag, f1, fs1⟩ := hd
    obtain rfl := fats_none fs1
    have f2 := fa_agree Ag f1 (by kernel_rfl)
    refine ⟨fr1, rfl, ⟨o1.heap.sub fun r x e => e, o1.keeps, o1.le⟩, ?_⟩
    have e : iop .add .i64 (i : Int) 1 = ((i + 1 : Nat) : Int) := lk_next hi
    unfold LkAt
    rw [← e]
    exact f2
  · rcases List.mem_append.1 hp with hp | hp
    · exact slB_ok rfl hi p hp
    · simp only [List.mem_cons, List.not_mem_nil, or_false] at hp
      rcases hp with rfl | rfl
      · exact decide_eq_true hd
      · exact decide_eq_false hl
theorem lk_near {B B2 : Nat} {le x y : Int} {f : Bool} {i : Nat} (hi : i < 16) (hC : L (0, 0) = some (K.C, .obj 72 (clkV K))) (hs : SlotAt L K i (s i) (d i)) (h : s i = 2) (hd : d i ≤ now) (hl : d i < le) (hB : L (0, 4) = some (B2, tmrV x y)) (o : On base W0 L w) (hf : LkAt K.C now B B2 le f i fr) :
    Go1 base (G fr cs) w fun g' w' => ∃ fr' L', g' = G fr' cs ∧ On base W0 L' w' ∧ Keep2 L L' ∧ L' (0, 3) = L (0, 3) ∧ L' (0, 4) = some (B2, tmrV i 2) ∧ LkAt K.C now B B2 (d i) true ((i + 1 : Nat) : Int) fr' := by
  have hdr : ∀ r ∈ ([(0, 4)] : List Role), r = (0, 3) ∨ r = (0, 4) := fun r hr => .inr (List.mem_singleton.1 hr)
  refine Walk.weaken (fun g' w' hd => ?_) (walkZ (frs := []) (callers := []) (bs := dueB [(.cmp .leq (v 8) (v 5), true), (.cmp .lss (v 8) (v 7), true)]) (mem := lkM 2) (lives := fun _ => []) (cs := cs) o [((0, 4), tmrB 91 (v 62) (v 63))] [((0, 4), tmrB 91 (v 6) (.lit 2))] (lkNear f (stOf fr)) rfl rfl (lkHLow' _ _) (by kernel_rfl) (ρ := lkEnv K.C K.N B B2 now le i (d i) x y 0 0 (K.sl i) (K.du i)) (hf_told hf) trivial (fun p hp => ?_) (lk_mem hi hC hs hdr _ h) (fun z hz => ?_) (by simp) (by simp))
  · obtain ⟨ρ1, fr1, frs1, rfl, o1, Ag, f1, fs1⟩ := hd
    obtain rfl := fats_none fs1
    have f2 := fa_agree Ag f1 (by kernel_rfl)
    have e : iop .add .i64 (i : Int) 1 = ((i + 1 : Nat) : Int) := lk_next hi
    refine ⟨fr1, _, rfl, o1, keep_relay hdr (fun z hz => .inr ?_), rfl, ?_, ?_⟩
    · obtain rfl := List.mem_singleton.1 hz
      rfl
    · show some (ρ1.b 91, Blk.obj 126 [.int .i64 (ρ1.i 6), .int .i64 2]) = _
      rw [Ag.b 91 (by decide), Ag.i 6 (by decide)]
      rfl
    · unfold LkAt
      rw [← e]
      exact f2
  · rcases List.mem_append.1 hp with hp | hp
    · exact slB_ok rfl hi p hp
    · simp only [List.mem_cons, List.not_mem_nil, or_false] at hp
      rcases hp with rfl | rfl
      · exact decide_eq_true hd
      · exact decide_eq_true hl
  · obtain rfl := List.mem_singleton.1 hz
    exact ⟨_, hB, rfl, rfl⟩
theorem lk_first {B B2 : Nat} {le x y : Int} {i : Nat} (hi : i < 16) (hC : L (0, 0) = some (K.C, .obj 72 (clkV K))) (hs : SlotAt L K i (s i) (d i)) (h : s i = 2) (hd : d i ≤ now) (hB : L (0, 4) = some (B2, tmrV x y)) (o : On base W0 L w) (hf : LkAt K.C now B B2 le false i fr) :
    Go1 base (G fr cs) w fun g' w' => ∃ fr' L', g' = G fr' cs ∧ On base W0 L' w' ∧ Keep2 L L' ∧ L' (0, 3) = L (0, 3) ∧ L' (0, 4) = some (B2, tmrV i 2) ∧ LkAt K.C now B B2 (d i) true ((i + 1 : Nat) : Int) fr' := by
  have hdr : ∀ r ∈ ([(0, 4)] : List Role), r = (0, 3) ∨ r = (0, 4) := fun r hr => .inr (List.mem_singleton.1 hr)
  refine Walk.weaken (fun g' w' hd => ?_) (walkZ (frs := []) (callers := []) (bs := dueB [(.cmp .leq (v 8) (v 5), true)]) (mem := lkM 2) (lives := fun _ => []) (cs := cs) o [((0, 4), tmrB 91 (v 62) (v 63))] [((0, 4), tmrB 91 (v 6) (.lit 2))] (lkFirst (stOf fr)) rfl rfl (lkHLow' _ _) (by kernel_rfl) (ρ := lkEnv K.C K.N B B2 now le i (d i) x y 0 0 (K.sl i) (K.du i)) (hf_told hf) trivial (fun p hp => ?_) (lk_mem hi hC hs hdr _ h) (fun z hz => ?_) (by simp) (by simp))
  · obtain ⟨ρ1, fr1, frs1, rfl, o1, Ag, f1, fs1⟩ := hd
    obtain rfl := fats_none fs1
    have f2 := fa_agree Ag f1 (by kernel_rfl)
    have e : iop .add .i64 (i : Int) 1 = ((i + 1 : Nat) : Int) := lk_next hi
    refine ⟨fr1, _, rfl, o1, keep_relay hdr (fun z hz => .inr ?_), rfl, ?_, ?_⟩
    · obtain rfl := List.mem_singleton.1 hz
      rfl
    · show some (ρ1.b 91, Blk.obj 126 [.int .i64 (ρ1.i 6), .int .i64 2]) = _
      rw [Ag.b 91 (by decide), Ag.i 6 (by decide)]
      rfl
    · unfold LkAt
      rw [← e]
      exact f2
  · rcases List.mem_append.1 hp with hp | hp
    · exact slB_ok rfl hi p hp
    · simp only [List.mem_cons, List.not_mem_nil, or_false] at hp
      subst hp
      exact decide_eq_true hd
  · obtain rfl := List.mem_singleton.1 hz
    exact ⟨_, hB, rfl, rfl⟩
theorem lk_end {B B2 : Nat} {le x y x' y' : Int} {f : Bool} (hA : L (0, 3) = some (B, tmrV x' y')) (hB : L (0, 4) = some (B2, tmrV x y)) (o : On base W0 L w) (hf : LkAt K.C now B B2 le f 16 fr) :
    Go1 base (G fr cs) w fun g' w' => ∃ fr' L', g' = G fr' cs ∧ On base W0 L' w' ∧ Keep2 L L' ∧ L' (0, 3) = some (B, tmrV x y) ∧ L' (0, 4) = some (B2, tmrV x y) ∧ LkRet B f fr' := by
  have hdr : ∀ r ∈ ([(0, 4), (0, 3)] : List Role), r = (0, 3) ∨ r = (0, 4) := fun r hr => by
    rcases List.mem_cons.1 hr with rfl | hr
    · exact .inr rfl
    · exact .inl (List.mem_singleton.1 hr)
  refine Walk.weaken (fun g' w' hd => ?_) (walkZ (frs := []) (callers := []) (bs := [(.cmp .lss (v 6) (.lit 16), false)]) (mem := []) (lives := fun _ => []) (cs := cs) o [((0, 4), tmrB 91 (v 62) (v 63)), ((0, 3), tmrB 90 (v 60) (v 61))] [((0, 3), tmrB 90 (v 62) (v 63)), ((0, 4), tmrB 91 (v 62) (v 63))] (lkEnd f (stOf fr)) rfl rfl (lkEndLow _ _) (by kernel_rfl) (ρ := lkEnv K.C K.N B B2 now le 16 0 x y x' y' 0 0) (hf_told hf) trivial (fun p hp => ?_) (fun p hp => by cases hp) (fun z hz => ?_) (by simp) (by simp [tmrB]))
  · obtain ⟨ρ1, fr1, frs1, rfl, o1, Ag, f1, fs1⟩ := hd
    obtain rfl := fats_none fs1
    have f2 := fa_agree Ag f1 (by cases f <;> kernel_rfl)
    refine ⟨fr1, _, rfl, o1, keep_relay hdr (fun z hz => ?_), ?_, ?_, f2⟩
    · rcases List.mem_cons.1 hz with rfl | hz
      · exact .inl rfl
      · obtain rfl := List.mem_singleton.1 hz
        exact .inr rfl
    · show some (ρ1.b 90, Blk.obj 126 [.int .i64 (ρ1.i 62), .int .i64 (ρ1.i 63)]) = _
      rw [Ag.b 90 (by decide), Ag.i 62 (by decide), Ag.i 63 (by decide)]
      rfl
    · show some (ρ1.b 91, Blk.obj 126 [.int .i64 (ρ1.i 62), .int .i64 (ρ1.i 63)]) = _
      rw [Ag.b 91 (by decide), Ag.i 62 (by decide), Ag.i 63 (by decide)]
      rfl
  · obtain rfl := List.mem_singleton.1 hp
    rfl
  · rcases List.mem_cons.1 hz with rfl | hz
    · exact ⟨_, hB, rfl, rfl⟩
    · obtain rfl := List.mem_singleton.1 hz
      exact ⟨_, hA, rfl, rfl⟩
theorem Found.keep {i : Nat} {f : Bool} {x y : Int} (F : Found s d now i f x y) (h : ¬ (s i = 2 ∧ d i ≤ now) ∨ f = true) : Found s d now (i + 1) f x y := by
  refine ⟨fun hf => ?_, fun hf j hj => ?_⟩
  · obtain ⟨j, h1, h2⟩ := F.1 hf
    exact ⟨j, by omega, h2⟩
  · rcases Nat.lt_succ_iff_lt_or_eq.1 hj with h1 | rfl
    · exact F.2 hf j h1
    · rcases h with h | h
      · exact h
      · rw [h] at hf; cases hf
theorem Found.take {i : Nat} (h : s i = 2) (hd : d i ≤ now) : Found s d now (i + 1) true i 2 := ⟨fun _ => ⟨i, by omega, h, hd, rfl, rfl⟩, fun e => by cases e⟩
theorem SlotAt.keep {L' : Lay} {i : Nat} {a b : Int} (h : SlotAt L K i a b) (k : Keep2 L L') : SlotAt L' K i a b := ⟨(k _ (by simp) (by simp)).trans h.s, (k _ (by simp) (by simp)).trans h.d⟩
theorem lk_loop (h024 : ∀ i, i < 16 → s i = 0 ∨ s i = 2 ∨ s i = 4) {B B2 : Nat} : ∀ (n i : Nat), i + n = 16 → ∀ {L : Lay} {w : World} {fr : Frame} {le x y x' y' : Int} {f : Bool}, L (0, 0) = some (K.C, .obj 72 (clkV K)) → (∀ i, i < 16 → SlotAt L K i (s i) (d i)) → L (0, 3) = some (B, tmrV x' y') → L (0, 4) = some (B2, tmrV x y) → Found s d now i f x y → On base W0 L w → LkAt K.C now B B2 le f i fr →
    Go1 base (G fr cs) w fun g' w' => ∃ fr' L' f x y, g' = G fr' cs ∧ On base W0 L' w' ∧ Keep2 L L' ∧ L' (0, 3) = some (B, tmrV x y) ∧ Found s d now 16 f x y ∧ LkRet B f fr' := by
  intro n
  induction n with
  | zero =>
    intro i hi L w fr le x y x' y' f hC hS hA hB F o hf
    obtain rfl : i = 16 := by omega
    refine Walk.weaken (fun g' w' hd => ?_) (lk_end hA hB o hf)
    obtain ⟨fr1, L1, rfl, o1, k1, a1, b1, f1⟩ := hd
    exact ⟨fr1, L1, f, x, y, rfl, o1, k1, a1, F, f1⟩
  | succ n ih =>
    intro i hi L w fr le x y x' y' f hC hS hA hB F o hf
    have hi' : i < 16 := by omega
    have stay : ∀ g' w', (∃ fr', g' = G fr' cs ∧ On base W0 L w' ∧ LkAt K.C now B B2 le f ((i + 1 : Nat) : Int) fr') → (¬ (s i = 2 ∧ d i ≤ now) ∨ f = true) → Go1 base g' w' fun g' w' => ∃ fr' L' f x y, g' = G fr' cs ∧ On base W0 L' w' ∧ Keep2 L L' ∧ L' (0, 3) = some (B, tmrV x y) ∧ Found s d now 16 f x y ∧ LkRet B f fr' := by
      rintro g' w' ⟨fr1, rfl, o1, f1⟩ h
      exact ih (i + 1) (by omega) hC hS hA hB (F.keep h) o1 f1
    have take : ∀ g' w', (∃ fr' L', g' = G fr' cs ∧ On base W0 L' w' ∧ Keep2 L L' ∧ L' (0, 3) = L (0, 3) ∧ L' (0, 4) = some (B2, tmrV i 2) ∧ LkAt K.C now B B2 (d i) true ((i + 1 : Nat) : Int) fr') → s i = 2 → d i ≤ now → Go1 base g' w' fun g' w' => ∃ fr' L' f x y, g' = G fr' cs ∧ On base W0 L' w' ∧ Keep2 L L' ∧ L' (0, 3) = some (B, tmrV x y) ∧ Found s d now 16 f x y ∧ LkRet B f fr' := by
      rintro g' w' ⟨fr1, L1, rfl, o1, k1, a1, b1, f1⟩ h1 h2
      refine Walk.weaken (fun g2 w2 hd => ?_) (ih (i + 1) (by omega) ((k1 _ (by simp) (by simp)).trans hC) (fun j hj => (hS j hj).keep k1) (a1.trans hA) b1 (Found.take h1 h2) o1 f1)
      obtain ⟨fr2, L2, f2, x2, y2, rfl, o2, k2, a2, F2, r2⟩ := hd
      exact ⟨fr2, L2, f2, x2, y2, rfl, o2, k1.trans k2, a2, F2, r2⟩
    by_cases h2 : s i = 2
    · by_cases hd : d i ≤ now
      · cases f with
        | false => exact (Walk.trans (m := 0) (fun g' w' q => take g' w' q h2 hd) (lk_first hi' hC (hS i hi') h2 hd hB o hf)).any
        | true =>
          by_cases hl : d i < le
          · exact (Walk.trans (m := 0) (fun g' w' q => take g' w' q h2 hd) (lk_near hi' hC (hS i hi') h2 hd hl hB o hf)).any
          · exact (Walk.trans (m := 0) (fun g' w' q => stay g' w' q (.inr rfl)) (lk_worse hi' hC (hS i hi') h2 hd hl o hf)).any
      · exact (Walk.trans (m := 0) (fun g' w' q => stay g' w' q (.inl fun h => hd h.2)) (lk_far hi' hC (hS i hi') h2 hd o hf)).any
    · have h04 : s i = 0 ∨ s i = 4 := by
        rcases h024 i hi' with h | h | h
        · exact .inl h
        · exact absurd h h2
        · exact .inr h
      exact (Walk.trans (m := 0) (fun g' w' q => stay g' w' q (.inl fun h => h2 h.1)) (lk_off hi' hC (hS i hi') h04 o hf)).any
/-- look, from its call to its return. -/
theorem lk_all (h024 : ∀ i, i < 16 → s i = 0 ∨ s i = 2 ∨ s i = 4) (hC : L (0, 0) = some (K.C, .obj 72 (clkV K))) (hS : ∀ i, i < 16 → SlotAt L K i (s i) (d i)) (o : On base W0 L w) (hf : LkIn K.C now fr) :
    Go1 base (G fr cs) w fun g' w' => ∃ fr' L' B f x y, g' = G fr' cs ∧ On base W0 L' w' ∧ Keep2 L L' ∧ L' (0, 3) = some (B, tmrV x y) ∧ Found s d now 16 f x y ∧ LkRet B f fr' := by
  have hdr : ∀ r ∈ ([] : List Role), r = (0, 3) ∨ r = (0, 4) := fun r hr => by cases hr
  refine (Walk.trans (m := 0) (fun g' w' hd => ?_) (walkZ (frs := []) (callers := []) (bs := []) (mem := [(⟨.dyn 10, .lit 0⟩, ptr0 11)]) (lives := fun _ => []) (cs := cs) o [] [((0, 3), tmrB 100 (.lit 0) (.lit 0)), ((0, 4), tmrB 101 (.lit 0) (.lit 0))] (lkIn (stOf fr)) rfl rfl (lkELow _) (by kernel_rfl) (ρ := lkEnv K.C K.N 0 0 now 0 0 0 0 0 0 0 0 0) (hf.rel (.inl rfl) [(0, ptr0 10), (1, nilP), (2, i64 (v 5))] rfl rfl) trivial (fun p hp => by cases hp) (fun p hp => ?_) (fun z hz => by cases hz) List.nodup_nil (by simp [tmrB]))).any
  · obtain ⟨ρ1, fr1, frs1, rfl, o1, Ag, f1, fs1⟩ := hd
    obtain rfl := fats_none fs1
    have f2 : LkAt K.C now (ρ1.b 100) (ρ1.b 101) 0 false ((0 : Nat) : Int) fr1 := by
      simp only [AV.evs, ptr0, nilP, i64, v, AV.ev, Option.map_some, Option.map_none, AA.ev, BR.ev, IE.ev, BE.ev, show ρ1.b 10 = K.C from Ag.b 10 (by decide), show ρ1.i 5 = now from Ag.i 5 (by decide)] at f1
      exact f1
    have kp : Keep2 L (relay L (([] : List (Role × Nat × ABlk)).map (·.1)) (postL ρ1 [((0, 3), tmrB 100 (.lit 0) (.lit 0)), ((0, 4), tmrB 101 (.lit 0) (.lit 0))])) := keep_relay hdr (fun z hz => by
      rcases List.mem_cons.1 hz with rfl | hz
      · exact .inl rfl
      · obtain rfl := List.mem_singleton.1 hz
        exact .inr rfl)
    refine Walk.weaken (fun g2 w2 hd => ?_) (lk_loop h024 16 0 rfl (x := 0) (y := 0) (x' := 0) (y' := 0) ((kp _ (by simp) (by simp)).trans hC) (fun j hj => (hS j hj).keep kp) rfl rfl ⟨(fun e => by cases e), fun _ j hj => by omega⟩ o1 f2)
    obtain ⟨fr2, L2, f2, x2, y2, rfl, o2, k2, a2, F2, r2⟩ := hd
    exact ⟨fr2, L2, _, f2, x2, y2, rfl, o2, kp.trans k2, a2, F2, r2⟩
  · obtain rfl := List.mem_singleton.1 hp
    exact .inl ⟨(0, 0), _, hC, (by simp), rfl⟩
end
end Go.Proofs.YtmnahfonnljobaaGreatDoor

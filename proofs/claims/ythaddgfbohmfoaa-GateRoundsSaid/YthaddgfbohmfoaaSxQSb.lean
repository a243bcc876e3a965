/-
  GateRounds: the bodies are laid, one by one. Conditions: none.
-/
import Derived.Test.YthaddgfbohmfoaaSxQSa
import Derived.Test.YthaddgfbohmfoaaSxQLs
import Derived.Test.YthaddgfbohmfoaaSxQD
set_option maxRecDepth 100000
set_option linter.unusedVariables false
set_option linter.unusedSimpArgs false
namespace Go.Proofs.Ythaddgfbohmfoaa
open Go.Proofs.Ythaddgfbohmfoaa.SX Go.Conc
open Go.ConcN (upd upd_ne upd_same)

section
variable {base : Nat} {W0 : World} {Inb : Nat → Option Tok.Seat} {h N : Nat} {m : Machine} {T : Trace} {w : World}

/-- A piece that owns what is new alone. -/
theorem walkN {fr : Frame} {frs cs : List Frame} (A : SAt Try.prog base W0 Inb h N m T (G fr (frs ++ cs)) w) {bs : List (BE × Bool)} {mem : List (AA × AV)} {n : Nat} {ks : List Nat} {cur : AFrame} {callers : List AFrame} {live : List Nat} {lives : FuncId → List Nat} {V : Seen} {Vs : List Seen}
    (hv : seeF (runQ bs mem n ks (cfg cur callers [])) live lives = some (V, Vs)) (hl : cfgLow 100 (cfg cur callers []) = true) (hO : (OO bs [] mem).low 100 = true) {ρ : Env} (hf : FrRel Try.prog ρ cur fr) (hfs : FrRels Try.prog ρ callers frs)
    (hb : ∀ p ∈ bs, p.1.ev ρ = p.2) (hm : ∀ p ∈ mem, w.cell? (p.1.ev ρ) = some (p.2.ev ρ)) :
    Gets Try.prog m T fun m' T' => ∃ w' ρ' hh a1 cl fr' frs', Piece base W0 Inb h N (fun b => w.heap.size ≤ b) (OO bs [] mem) ρ cs live lives V Vs w m' T' w' ρ' hh a1 cl fr' frs' :=
  walkP A (own := fun b => w.heap.size ≤ b) A.new (fun n hn => hn) hv hl hO hf hfs hb (fun p hp => ⟨Nat.not_le.2 (cellLt (hm p hp)), hm p hp⟩) (fun p hp => by cases hp) (fun p hp => by cases hp) List.nodup_nil (fun p hp => by cases hp)

theorem Piece.lone {own : Nat → Prop} {O : Orc} {ρ : Env} {cs : List Frame} {live : List Nat} {lives : FuncId → List Nat} {V : Seen} {m' : Machine} {T' : Trace} {w' : World} {ρ' : Env} {hh : AH} {a1 : AFrame} {cl : List AFrame} {fr' : Frame} {frs' : List Frame} (C : Piece base W0 Inb h N own O ρ cs live lives V [] w m' T' w' ρ' hh a1 cl fr' frs') : cl = [] ∧ frs' = [] := by
  obtain rfl : cl = [] := List.map_eq_nil_iff.1 C.cls
  refine ⟨rfl, ?_⟩
  have := C.frs
  cases frs' with
  | nil => rfl
  | cons a b => exact this.elim
end

/-- Nobody sits. -/
def Nob : Nat → Option Tok.Seat := fun _ => none
theorem nob_own {base b : Nat} (h : base ≤ b) : (SK Try.prog base Nob).own b := ⟨h, fun ⟨_, _, e, _⟩ => by cases e⟩
theorem nob_still {b n : Nat} : ¬ stillI Nob b n := fun ⟨_, _, e, _⟩ => by cases e

def fvL (D : Dat) (i : Nat) : List Value := (List.range i).map fun j => fv D j
theorem fvL_length (D : Dat) (i : Nat) : (fvL D i).length = i := by simp [fvL]
theorem fvL_succ (D : Dat) (i : Nat) : fvL D (i + 1) = fvL D i ++ [fv D i] := by simp [fvL, List.range_succ]
theorem fvL_congr {D D' : Dat} {i : Nat} (h1 : D.OB = D'.OB) (h2 : D.X = D'.X) (h3 : ∀ j, j < i → D.ci j = D'.ci j) : fvL D i = fvL D' i := List.map_congr_left fun j hj => by
  unfold fv
  rw [h1, h2, h3 j (List.mem_range.1 hj)]

noncomputable def bodE (D : Dat) (i : Nat) (fs : List Value) : Env := mkE [(1, D.n), (2, i), (3, sumC D.k i), (4, D.o i), (7, D.oc), (8, D.oo), (29, D.cB)] [(9, D.ob), (11, D.OB), (12, D.ci i), (13, D.X), (28, D.BA)] [(40, .agg fs.toArray)]

/-- So many bodies have been laid. -/
structure BodAt (D : Dat) (W0 : World) (N i : Nat) (m : Machine) (T : Trace) (w : World) (st : Nat → Value) (fr : Frame) : Prop where
  at' : SAt Try.prog D.base W0 Nob 0 N m T (G fr []) w
  fr : ∀ fs, FrRel Try.prog (bodE D i fs) (f3Hd st (zero? i)) fr
  box : ObjAt w D.OB [.slice (some ⟨D.ob, D.oo, none⟩) D.n D.oc] 22
  often : ∀ i, i < D.n → w.cell? ⟨D.ob, D.oo + i, none⟩ = some (.int .u8 (D.o i))
  x : ObjAt w D.X [iV 0] 28
  ci : ∀ j, j ≤ i → ObjAt w (D.ci j) [iV j] 3
  vec : 0 < i → VecAt Try.prog w 35 D.BA (fvL D i) D.cB
  bX : D.base ≤ D.X
  bO : D.base ≤ D.OB
  bC : D.base ≤ D.ci i
  bV : 0 < i → D.base ≤ D.BA
  cne : ∀ j, j < i → D.ci j ≠ D.ci i
  old : D.ob < D.base
  o8 : ∀ i, D.o i < 256
  n40 : D.n ≤ 40

theorem sumC_le {D : Dat} (i : Nat) : sumC D.k i ≤ 31 * i := by
  induction i with
  | zero => exact Nat.le_refl _
  | succ i ih =>
    have : D.k i < 32 := Nat.mod_lt _ (by decide)
    rw [sumC]
    omega
theorem size35 (inf : TypeInfo) (hi : Try.prog.info? 35 = some inf) : inf.size = 1 := by
  have e2 : (Try.prog.info? 35).map (fun x => x.size) = some 1 := by kernel_rfl
  rw [hi] at e2
  exact Option.some.inj e2

theorem bod_step {D : Dat} {W0 : World} {N i : Nat} {m : Machine} {T : Trace} {w : World} {st : Nat → Value} {fr : Frame} (hi : i < D.n) (B : BodAt D W0 N i m T w st fr) :
    Gets Try.prog m T fun m' T' => ∃ c BA cB w' st' fr', BodAt { D with ci := upd D.ci (i + 1) c, BA := BA, cB := cB } W0 N (i + 1) m' T' w' st' fr' := by
  have n40 := B.n40
  obtain ⟨z, hz⟩ : ∃ z, z = zero? i := ⟨_, rfl⟩
  have hpos : z = false → 0 < i := fun h => zero_f (hz.symm.trans h)
  have hfr := B.fr (fvL D i)
  rw [← hz] at hfr
  have hsl := sumC_le (D := D) i
  have hk : D.k i < 32 := Nat.mod_lt _ (by decide)
  have own : ∀ b, (w.heap.size ≤ b ∨ b = D.ci i ∨ (z = false ∧ b = D.BA)) → (SK Try.prog D.base Nob).own b := fun b hb => by
    rcases hb with hb | rfl | ⟨h0, rfl⟩
    · exact B.at'.new b hb
    · exact nob_own B.bC
    · exact nob_own (B.bV (hpos h0))
  have notown : ∀ {b : Nat} {e : TypeId}, Ty w b e → e ≠ 3 → e ≠ 35 → ¬ (w.heap.size ≤ b ∨ b = D.ci i ∨ (z = false ∧ b = D.BA)) := fun hb h3 h35 x => by
    rcases x with x | rfl | ⟨h0, rfl⟩
    · exact Nat.not_lt.2 x hb.lt
    · exact hb.ne (B.ci i (Nat.le_refl _)).ty h3 rfl
    · exact hb.ne (B.vec (hpos h0)).ty h35 rfl
  have notob : ¬ (w.heap.size ≤ D.ob ∨ D.ob = D.ci i ∨ (z = false ∧ D.ob = D.BA)) := fun x => by
    have hlt : D.ob < w.heap.size := cellLt (B.often i hi)
    have := B.old
    have := B.bC
    rcases x with x | x | ⟨h0, x⟩
    · omega
    · omega
    · have := B.bV (hpos h0); omega
  refine (walkP (cs := []) (frs := []) B.at' own (fun n hn => .inl hn) (b0 z st) (b0Low z st) (b0O z) hfr trivial (fun p hp => ?_) (fun p hp => ?_) (fun p hp => ?_) (fun p hp => ?_) ?_ (fun p hp n hn => absurd hn nob_still)).mono fun m1 T1 hd => ?_
  · have hp' : p = (.cmp .lss (v 2) (.tn (v 1)), true) ∨ p = (.cmp .leq (.lit 0) (v 2), true) ∨ p = (.cmp .leq (.plus (.tn (v 2)) (.lit 1)) (.lit 1048576), true) := by
      cases z <;> simp only [bsBd, List.append_nil, List.cons_append, List.nil_append, List.mem_cons, List.not_mem_nil, or_false] at hp
      · exact hp
      · rcases hp with h | h
        · exact .inl h
        · exact .inr (.inl h)
    rcases hp' with rfl | rfl | rfl
    · show decide ((i : Int) < (((D.n : Nat) : Int).toNat : Int)) = true
      exact decide_eq_true (by omega)
    · show decide ((0 : Int) ≤ (i : Int)) = true
      exact decide_eq_true (by omega)
    · show decide ((((i : Int).toNat : Int) + 1) ≤ 1048576) = true
      exact decide_eq_true (by omega)
  · simp only [memBd, List.mem_cons, List.not_mem_nil, or_false] at hp
    rcases hp with rfl | rfl
    · exact ⟨notown B.box.ty (by decide) (by decide), B.box.cell rfl⟩
    · exact ⟨notob, B.often i hi⟩
  · have hp' : (z = false ∧ p = (28, .pre false 40 (v 2) [] [] [] 35 (v 29))) ∨ p = (12, .cells [i64 (v 2)] 3) := by
      cases z <;> simp only [hpBd, List.cons_append, List.nil_append, List.mem_cons, List.not_mem_nil, or_false] at hp
      · exact hp.imp (fun h => ⟨rfl, h⟩) id
      · exact .inr hp
    rcases hp' with ⟨h0, rfl⟩ | rfl
    · exact (B.vec (hpos h0)).is (ρ := bodE D i (fvL D i)) rfl (fun inf hinf => by
        rw [size35 inf hinf, fvL_length]
        show i = ((i : Int)).toNat * 1
        omega) (fun p hp => by cases hp) rfl
    · exact ObjAt.is (P := Try.prog) (ρ := bodE D i (fvL D i)) (B.ci i (Nat.le_refl _))
  · have hp' : (z = false ∧ p = (28, .pre false 40 (v 2) [] [] [] 35 (v 29))) ∨ p = (12, .cells [i64 (v 2)] 3) := by
      cases z <;> simp only [hpBd, List.cons_append, List.nil_append, List.mem_cons, List.not_mem_nil, or_false] at hp
      · exact hp.imp (fun h => ⟨rfl, h⟩) id
      · exact .inr hp
    rcases hp' with ⟨h0, rfl⟩ | rfl
    · exact .inr (.inr ⟨h0, rfl⟩)
    · exact .inr (.inl rfl)
  · cases z with
    | true => simp [hpBd]
    | false =>
      have n1 : D.BA ≠ D.ci i := (B.vec (hpos rfl)).ty.ne (B.ci i (Nat.le_refl _)).ty (by decide)
      show [D.BA, D.ci i].Nodup
      simp [n1]
  obtain ⟨w1, ρ', hh, a1', cl, fr', frs', C⟩ := hd
  obtain ⟨rfl, rfl⟩ := C.lone
  obtain ⟨st', t'⟩ := FrRel.toldF C.fr (lv := f3L false) C.cur (.inl rfl)
  have x1 : ρ'.i 1 = D.n := C.agree.i 1 (by decide)
  have x2 : ρ'.i 2 = i := C.agree.i 2 (by decide)
  have x3 : ρ'.i 3 = sumC D.k i := C.agree.i 3 (by decide)
  have x4 : ρ'.i 4 = (D.o i : Nat) := C.agree.i 4 (by decide)
  have y11 : ρ'.b 11 = D.OB := C.agree.b 11 (by decide)
  have y12 : ρ'.b 12 = D.ci i := C.agree.b 12 (by decide)
  have y13 : ρ'.b 13 = D.X := C.agree.b 13 (by decide)
  have v40 : ρ'.v 40 = .agg (fvL D i).toArray := by rw [C.agree.v]; rfl
  have f1 : findB 102 hh.hp = some (.cells [i64 (.op .add .i64 (v 2) (.lit 1))] 3) := by rw [C.hp]; rfl
  have f2 : findB 101 hh.hp = some (arrB z 40 fvA 35 101) := by rw [C.hp]; rfl
  have f3 : findB 12 hh.hp = some (.cells [i64 (v 2)] 3) := by rw [C.hp]; rfl
  have o1 := obj_of_cells C.rel f1
  have o3 := obj_of_cells C.rel f3
  have ei : iop .add .i64 (i : Int) 1 = ((i + 1 : Nat) : Int) := by
    show IntKind.wrap .i64 ((i : Int) + 1) = _
    rw [wrapN (by omega)]; rfl
  have eC1 : AV.evs ρ' [i64 (.op .add .i64 (v 2) (.lit 1))] = [iV ((i + 1 : Nat) : Int)] := by
    simp only [AV.evs, i64, v, AV.ev, IE.ev, x2, ei]
    rfl
  have eC3 : AV.evs ρ' [i64 (v 2)] = [iV (i : Int)] := by
    simp only [AV.evs, i64, v, AV.ev, IE.ev, x2]
    rfl
  rw [eC1] at o1
  rw [eC3, y12] at o3
  have eF : AV.evs ρ' [fvA] = [fv D i] := by
    simp only [fvA, AV.evs, ptr0, AV.ev, Option.map_some, AA.ev, BR.ev, IE.ev, y11, y12, y13]
    rfl
  have vec : VecAt Try.prog w1 35 (ρ'.b 101) (fvL D (i + 1)) (ρ'.i 101).toNat := by
    rw [fvL_succ]
    cases z with
    | true =>
      obtain rfl : i = 0 := zero_t hz.symm
      have h := vec_of_row C.rel f2
      rw [eF] at h
      exact h
    | false =>
      have h := vec_of_pre C.rel f2 v40
      rw [eF] at h
      exact h
  have g101 : D.base ≤ ρ'.b 101 := (own _ (C.rel.own _ _ f2 (by cases z <;> rfl))).1
  have g102 : D.base ≤ ρ'.b 102 := (own _ (C.rel.own _ _ f1 rfl)).1
  have e12 : ρ'.b 102 ≠ D.ci i := fun e => by
    have := C.rel.inj _ _ _ _ f1 f3 (e.trans y12.symm)
    omega
  -- the others' cells
  have cold : ∀ j, j < i → ObjAt w1 (D.ci j) [iV j] 3 := fun j hj => by
    refine (B.ci j (by omega)).keep C.keeps fun x => ?_
    rcases x with x | x | ⟨h0, x⟩
    · exact absurd (B.ci j (by omega)).lt (Nat.not_lt.2 x)
    · exact B.cne j hj x
    · exact (B.ci j (by omega)).ty.ne (B.vec (hpos h0)).ty (by decide) x
  have cnew : ∀ j, j < i → ρ'.b 102 ≠ D.ci j := fun j hj e => by
    have c1 : w1.cell? ⟨ρ'.b 102, 0, none⟩ = some (iV ((i + 1 : Nat) : Int)) := o1.cell rfl
    have c2 : w1.cell? ⟨D.ci j, 0, none⟩ = some (iV j) := (cold j hj).cell rfl
    rw [e, c2] at c1
    have h := Option.some.inj c1
    have h2 : (j : Int) = ((i + 1 : Nat) : Int) := by simpa [iV] using h
    omega
  have eadd : addE.ev ρ' = ((sumC D.k (i + 1) : Nat) : Int) := by
    show iop .add .i64 (ρ'.i 3) (IntKind.wrap .i64 (modE.ev ρ')) = _
    rw [x3, mod_ev x4 (B.o8 i)]
    have : ((D.o i % 32 : Nat) : Int) = ((D.k i : Nat) : Int) := rfl
    rw [this, wrapN (by omega)]
    show IntKind.wrap .i64 ((sumC D.k i : Int) + (D.k i : Int)) = _
    rw [wrapN (by omega)]
    rw [sumC]
    omega
  have hzs : zero? (i + 1) = false := rfl
  refine ⟨ρ'.b 102, ρ'.b 101, (ρ'.i 101).toNat, w1, st', fr', ⟨C.at', fun fs => ?_, B.box.keep C.keeps (notown B.box.ty (by decide) (by decide)), fun j hj => ?_, B.x.keep C.keeps (notown B.x.ty (by decide) (by decide)), fun j hj => ?_, fun _ => ?_, B.bX, B.bO, ?_, fun _ => g101, fun j hj => ?_, B.old, B.o8, B.n40⟩⟩
  · rw [hzs]
    refine t' _ ?_
    have ec : (bodE { D with ci := upd D.ci (i + 1) (ρ'.b 102), BA := ρ'.b 101, cB := (ρ'.i 101).toNat } (i + 1) fs).b 12 = ρ'.b 102 := upd_same D.ci (i + 1) _
    have eb : AV.ev ρ' (bodV z) = .slice (some ⟨ρ'.b 101, 0, none⟩) (i + 1) (ρ'.i 101).toNat := by
      cases z with
      | true =>
        obtain rfl : i = 0 := zero_t hz.symm
        rfl
      | false =>
        show Value.slice (some ⟨ρ'.b 101, 0, none⟩) (((((ρ'.i 2).toNat : Nat) : Int) + 1).toNat) (ρ'.i 101).toNat = _
        rw [x2]; rfl
    have ep : AV.ev ρ' (ptr0 102) = ptrV (ρ'.b 102) := rfl
    have e11 : AV.ev ρ' (ptr0 11) = ptrV D.OB := by simp only [ptr0, AV.ev, Option.map_some, AA.ev, BR.ev, IE.ev, y11]; rfl
    have e13 : AV.ev ρ' (ptr0 13) = ptrV D.X := by simp only [ptr0, AV.ev, Option.map_some, AA.ev, BR.ev, IE.ev, y13]; rfl
    have ea : AV.ev ρ' (i64 addE) = iV ((sumC D.k (i + 1) : Nat) : Int) := by
      show Value.int .i64 (addE.ev ρ') = _
      rw [eadd]; rfl
    simp only [AV.evs, eb, ep, e11, e13, ea, f3L, List.map_cons, List.map_nil]
    have eX : AV.ev (bodE { D with ci := upd D.ci (i + 1) (ρ'.b 102), BA := ρ'.b 101, cB := (ρ'.i 101).toNat } (i + 1) fs) (ptr0 12) = ptrV (ρ'.b 102) := by
      simp only [ptr0, AV.ev, Option.map_some, AA.ev, BR.ev, IE.ev, ec]; rfl
    rw [eX]
    rfl
  · have := B.often j hj
    simp only [World.cell?] at this ⊢
    rw [C.keeps.heap _ notob]; exact this
  · show ObjAt w1 (upd D.ci (i + 1) (ρ'.b 102) j) [iV j] 3
    by_cases e : j = i + 1
    · rw [e, upd_same]; exact o1
    · rw [upd_ne D.ci _ e]
      by_cases e2 : j = i
      · rw [e2]; exact o3
      · exact cold j (by omega)
  · rw [fvL_congr (D := { D with ci := upd D.ci (i + 1) (ρ'.b 102), BA := ρ'.b 101, cB := (ρ'.i 101).toNat }) (D' := D) rfl rfl fun j hj => upd_ne D.ci _ (by omega)]
    exact vec
  · show D.base ≤ upd D.ci (i + 1) (ρ'.b 102) (i + 1)
    rw [upd_same]; exact g102
  · show upd D.ci (i + 1) (ρ'.b 102) j ≠ upd D.ci (i + 1) (ρ'.b 102) (i + 1)
    rw [upd_same, upd_ne D.ci _ (by omega)]
    by_cases e2 : j = i
    · rw [e2]; exact fun e => e12 e.symm
    · exact fun e => cnew j (by omega) e.symm

/-- The same but for where things lie. -/
def Same (D D' : Dat) : Prop := D'.base = D.base ∧ D'.n = D.n ∧ D'.OB = D.OB ∧ D'.X = D.X ∧ D'.ob = D.ob ∧ D'.oo = D.oo ∧ D'.oc = D.oc ∧ D'.N0 = D.N0 ∧ D'.o = D.o
theorem Same.refl (D : Dat) : Same D D := ⟨rfl, rfl, rfl, rfl, rfl, rfl, rfl, rfl, rfl⟩
theorem Same.trans {D D' D'' : Dat} (h : Same D D') (h' : Same D' D'') : Same D D'' := by
  obtain ⟨a1, a2, a3, a4, a5, a6, a7, a8, a9⟩ := h
  obtain ⟨b1, b2, b3, b4, b5, b6, b7, b8, b9⟩ := h'
  exact ⟨b1.trans a1, b2.trans a2, b3.trans a3, b4.trans a4, b5.trans a5, b6.trans a6, b7.trans a7, b8.trans a8, b9.trans a9⟩

theorem bod_loop {W0 : World} {N : Nat} : ∀ (d i : Nat) {D : Dat} {m : Machine} {T : Trace} {w : World} {st : Nat → Value} {fr : Frame}, i + d = D.n → BodAt D W0 N i m T w st fr →
    Gets Try.prog m T fun m' T' => ∃ D' w' st' fr', Same D D' ∧ BodAt D' W0 N D'.n m' T' w' st' fr' := by
  intro d
  induction d with
  | zero =>
    intro i D m T w st fr h B
    obtain rfl : i = D.n := by omega
    exact Gets.refl ⟨D, _, _, _, Same.refl D, B⟩
  | succ d ih =>
    intro i D m T w st fr h B
    refine (bod_step (by omega) B).trans fun m1 T1 hd => ?_
    obtain ⟨c, BA, cB, w', st', fr', B'⟩ := hd
    refine (ih (i + 1) (D := { D with ci := upd D.ci (i + 1) c, BA := BA, cB := cB }) (by show i + 1 + d = D.n; omega) B').mono fun m2 T2 hd => ?_
    obtain ⟨D', w2, st2, fr2, S, B2⟩ := hd
    exact ⟨D', w2, st2, fr2, Same.trans ⟨rfl, rfl, rfl, rfl, rfl, rfl, rfl, rfl, rfl⟩ S, B2⟩
end Go.Proofs.Ythaddgfbohmfoaa
/-
  GateRounds: the run begins; all bodies are begun; memory ahead of the first round. Conditions: none.
-/
set_option maxRecDepth 100000
set_option linter.unusedVariables false
set_option linter.unusedSimpArgs false
namespace Go.Proofs.Ythaddgfbohmfoaa
open Go.Proofs.Ythaddgfbohmfoaa.SX Go.Conc
open Go.ConcN (upd upd_ne upd_same)

def rep0V : List Value := [.int .i8 0, iV 0, nilV, nilV, nilV, nilV, nilV]
def F12At (D : Dat) (RB : Nat) (st : Nat → Value) (fr : Frame) : Prop := ∀ ρ : Env, ρ.b 40 = RB → ρ.b 31 = D.s2 → FrRel Try.prog ρ (f12W st) fr
def F3At (D : Dat) (st : Nat → Value) (fr : Frame) : Prop := ∀ ρ : Env, ρ.b 11 = D.OB → ρ.b 13 = D.X → ρ.i 3 = sumC D.k D.n → FrRel Try.prog ρ (f3W st) fr

/-- What lies beside while the bodies are begun. -/
structure Side (D : Dat) (RB : Nat) (w : World) : Prop where
  map : MapAt w D.MB []
  x : ObjAt w D.X [iV 0] 28
  s1 : ObjAt w D.s1 [nilV] 37
  s2 : ObjAt w D.s2 [ptrV D.R] 75
  rb : ObjAt w RB rep0V 39
  bX : D.base ≤ D.X
  bM : D.base ≤ D.MB
  bB : D.base ≤ RB

theorem run_in {D : Dat} {W0 : World} {N : Nat} {m : Machine} {T : Trace} {w : World} {st : Nat → Value} {fr : Frame} (hn : 0 < D.n) (B : BodAt D W0 N D.n m T w st fr) :
    Gets Try.prog m T fun m' T' => ∃ D' RB s12 s3 f12 f3 th fr' st' w', Same { D with N0 := N } D' ∧ BegAt D' W0 0 [f12, f3] m' T' Nob th fr' st' 0 0 0 0 w' ∧ Side D' RB w' ∧ F12At D' RB s12 f12 ∧ F3At D' s3 f3 := by
  have n40 := B.n40
  have hz : zero? D.n = false := by
    cases e : zero? D.n with
    | false => rfl
    | true => have := zero_t e; omega
  have hfr := B.fr []
  rw [hz] at hfr
  refine (walkN (cs := []) (frs := []) B.at' (c0 st) (c0Low st) c0O hfr trivial (fun p hp => ?_) (fun p hp => ?_)).mono fun m1 T1 hd => ?_
  · simp only [bsRn, List.mem_cons, List.not_mem_nil, or_false] at hp
    rcases hp with rfl | rfl | rfl
    · show decide ((((D.n : Nat) : Int).toNat : Int) > 64) = false
      exact decide_eq_false (by omega)
    · show decide ((D.n : Int) < (((D.n : Nat) : Int).toNat : Int)) = false
      exact decide_eq_false (by omega)
    · show decide ((((D.n : Nat) : Int).toNat : Int) > 64) = false
      exact decide_eq_false (by omega)
  · simp only [memRn, List.mem_cons, List.not_mem_nil, or_false] at hp
    rcases hp with rfl | rfl
    · exact B.box.cell rfl
    · exact (B.ci D.n (Nat.le_refl _)).cell rfl
  obtain ⟨w1, ρ', hh, a1', cl, fr', frs', C⟩ := hd
  obtain ⟨a12, a3, rfl, e12, e3⟩ := map_two C.cls
  obtain ⟨f12, f3, rfl, r12, r3⟩ := frs_two C.frs
  have n12 : a12.fn = 12 := congrArg Seen.fn e12
  have n3 : a3.fn = 3 := congrArg Seen.fn e3
  rw [n12] at e12
  rw [n3] at e3
  obtain ⟨s12, t12⟩ := FrRel.toldF r12 (lv := f12K) e12 (.inl rfl)
  obtain ⟨s3, t3⟩ := FrRel.toldF r3 (lv := f3K) e3 (.inl rfl)
  obtain ⟨st', t'⟩ := FrRel.toldF C.fr (lv := unL (v 2)) C.cur (.inl rfl)
  have x2 : ρ'.i 2 = D.n := C.agree.i 2 (by decide)
  have x3 : ρ'.i 3 = sumC D.k D.n := C.agree.i 3 (by decide)
  have x29 : ρ'.i 29 = D.cB := C.agree.i 29 (by decide)
  have y11 : ρ'.b 11 = D.OB := C.agree.b 11 (by decide)
  have y13 : ρ'.b 13 = D.X := C.agree.b 13 (by decide)
  have y28 : ρ'.b 28 = D.BA := C.agree.b 28 (by decide)
  have g4 : findB 104 hh.hp = some (.cells [ptr0 103] 75) := by rw [C.hp]; rfl
  have g3 : findB 103 hh.hp = some (.cells [nilA, .map (some (.dyn 102)), nilA, nilA, nilA, nilA, ff] 87) := by rw [C.hp]; rfl
  have g2 : findB 102 hh.hp = some (.map []) := by rw [C.hp]; rfl
  have g1 : findB 101 hh.hp = some (.cells rep0 39) := by rw [C.hp]; rfl
  have g0 : findB 100 hh.hp = some (.cells [nilA] 37) := by rw [C.hp]; rfl
  have no : ∀ {b : Nat}, b < w.heap.size → ¬ w.heap.size ≤ b := fun h => Nat.not_le.2 h
  have ge : ∀ {k : Nat} {b : ABlk}, findB k hh.hp = some b → b.isChan = false → D.base ≤ ρ'.b k := fun f hc => Nat.le_trans B.at'.size (C.rel.own _ _ f hc)
  have vec := (B.vec hn).keep C.keeps (no (B.vec hn).lt)
  have fvE : ∀ {D' : Dat}, D'.OB = D.OB → D'.X = D.X → D'.ci = D.ci → ∀ i, fv D' i = fv D i := fun h1 h2 h3 i => by unfold fv; rw [h1, h2, h3]
  have hMap : MapAt w1 (ρ'.b 102) [] := by
    obtain ⟨o, ho, hi⟩ := C.rel.blk _ _ g2
    rcases hi with ⟨arr, rfl, hf⟩ | ⟨arr, clk, rfl, he⟩
    · exact hf.elim
    · exact ⟨arr, clk, ho, he⟩
  refine ⟨{ D with N0 := N, R := ρ'.b 103, MB := ρ'.b 102, s1 := ρ'.b 100, s2 := ρ'.b 104 }, ρ'.b 101, s12, s3, f12, f3, fun _ => ⟨0, 0, 0, 0, 0, 0⟩, fr', st', w1, ⟨rfl, rfl, rfl, rfl, rfl, rfl, rfl, rfl, rfl⟩,
    ⟨C.at', fun TA cT FA cF ps fs => t' _ ?_, ⟨B.box.keep C.keeps (no B.box.lt), fun i hi => ?_, fun i hi => (B.ci i (Nat.le_of_lt hi)).keep C.keeps (no (B.ci i (Nat.le_of_lt hi)).lt), fun i hi => ?_, vec.ty, B.old, B.o8, B.n40⟩, ?_, fun h => absurd h (Nat.lt_irrefl 0), fun h => absurd h (Nat.lt_irrefl 0), fun j hj => absurd hj (Nat.not_lt_zero _), fun g s e => (by cases e), ge g3 rfl, fun h => absurd h (Nat.lt_irrefl 0), B.at'.hlt, fun j hj => absurd hj (Nat.not_lt_zero _), fun x j hx => absurd hx (Nat.not_lt_zero _), fun j hj => absurd hj (Nat.not_lt_zero _)⟩,
    ⟨hMap, B.x.keep C.keeps (no B.x.lt), obj_of_cells C.rel g0, obj_of_cells C.rel g4, obj_of_cells C.rel g1, B.bX, ?_, ge g1 rfl⟩, fun ρ h1 h2 => t12 ρ ?_, fun ρ h1 h2 h3 => t3 ρ ?_⟩
  · simp only [unL, unV, sched, List.map_cons, List.map_nil, AV.evs, ptr0, slc, i64, AV.ev, Option.map_some, AA.ev, BR.ev, IE.ev, v, x2, x29, y28]
    rfl
  · have := B.often i hi
    have hl : D.ob < w.heap.size := cellLt this
    simp only [World.cell?] at this ⊢
    rw [C.keeps.heap _ (no hl)]; exact this
  · have h := vec.arr i (fv D i) (by simp [fvL, List.getElem?_map, List.getElem?_range hi])
    rw [Nat.zero_add] at h
    exact h
  · exact obj_of_cells C.rel g3
  · exact Nat.le_trans B.at'.size ((C.rel.own' _ _ g2).elim id fun ⟨_, h⟩ => by
      rcases h with h | h
      · exact absurd h nob_still
      · exact h.elim)
  · simp only [f12K, List.map_cons, List.map_nil, AV.evs, ptr0, AV.ev, Option.map_some, AA.ev, BR.ev, IE.ev, h1, h2]
  · simp only [f3K, List.map_cons, List.map_nil, AV.evs, ptr0, i64, v, TB, AV.ev, Option.map_some, AA.ev, BR.ev, IE.ev, BE.ev, h1, h2, h3, x3, y11, y13]
    rfl

theorem Side.keep {D : Dat} {W0 : World} {i : Nat} {cs : List Frame} {m : Machine} {T : Trace} {Inb : Nat → Option Tok.Seat} {th : Nat → Thr} {fr : Frame} {st : Nat → Value} {TA cT FA cF RB : Nat} {w w' : World} (S : Side D RB w) (B : BegAt D W0 i cs m T Inb th fr st TA cT FA cF w) (kp : Keeps (begOwn D i TA FA w) w w') : Side D RB w' := by
  refine ⟨S.map.keep kp ?_, S.x.keep kp (B.notOwn S.x.ty (by decide) (by decide) (by decide)), S.s1.keep kp (B.notOwn S.s1.ty (by decide) (by decide) (by decide)), S.s2.keep kp (B.notOwn S.s2.ty (by decide) (by decide) (by decide)), S.rb.keep kp (B.notOwn S.rb.ty (by decide) (by decide) (by decide)), S.bX, S.bM, S.bB⟩
  rintro (h | h | ⟨h0, h | h⟩)
  · exact Nat.not_lt.2 h S.map.lt
  · exact S.map.noTy B.run.ty h
  · exact S.map.noTy (B.arrT h0).ty h
  · exact S.map.noTy (B.arrF h0).ty h

theorem beg_loop {D : Dat} {W0 : World} {cs : List Frame} {RB : Nat} : ∀ (d i : Nat) {m : Machine} {T : Trace} {Inb : Nat → Option Tok.Seat} {th : Nat → Thr} {fr : Frame} {st : Nat → Value} {TA cT FA cF : Nat} {w : World}, i + d = D.n → BegAt D W0 i cs m T Inb th fr st TA cT FA cF w → Side D RB w →
    Gets Try.prog m T fun m' T' => ∃ Inb' th' fr' st' TA' cT' FA' cF' w', BegAt D W0 D.n cs m' T' Inb' th' fr' st' TA' cT' FA' cF' w' ∧ Side D RB w' := by
  intro d
  induction d with
  | zero =>
    intro i m T Inb th fr st TA cT FA cF w h B S
    obtain rfl : i = D.n := by omega
    exact Gets.refl ⟨_, _, _, _, _, _, _, _, _, B, S⟩
  | succ d ih =>
    intro i m T Inb th fr st TA cT FA cF w h B S
    refine (beg_step (by omega) B).trans fun m1 T1 hd => ?_
    obtain ⟨Inb', th', fr', st', TA', cT', FA', cF', w', B', kp⟩ := hd
    exact ih (i + 1) (by omega) B' (S.keep B kp)

/-- Ahead of the first round. -/
theorem first_round {D : Dat} {W0 : World} {cs : List Frame} {RB : Nat} {m : Machine} {T : Trace} {Inb : Nat → Option Tok.Seat} {th : Nat → Thr} {fr : Frame} {st : Nat → Value} {TA cT FA cF : Nat} {w : World} (hn : 0 < D.n) (B : BegAt D W0 D.n cs m T Inb th fr st TA cT FA cF w) (S : Side D RB w) :
    Gets Try.prog m T fun m' T' => ∃ Y fr' st' w', SAt Try.prog D.base W0 Inb 0 (D.N0 + D.n) m' T' (G fr' cs) w' ∧ HdFr D Y st' fr' ∧ Mem D th Inb (fun _ => 0) [] Y w' ∧ ObjAt w' RB rep0V 39 ∧ D.base ≤ RB := by
  refine (walkN (cs := cs) (frs := []) B.at' (u1 st) (u1Low st) u1O (B.fr 0 0 0 0 [] []) trivial (fun p hp => ?_) (fun p hp => by cases hp)).mono fun m1 T1 hd => ?_
  · obtain rfl := List.mem_singleton.1 hp
    show decide ((D.n : Int) < (((D.n : Nat) : Int).toNat : Int)) = false
    exact decide_eq_false (by omega)
  obtain ⟨w1, ρ', hh, a1', cl, fr', frs', C⟩ := hd
  obtain ⟨rfl, rfl⟩ := C.lone
  obtain ⟨st', t'⟩ := FrRel.toldF C.fr (lv := rL) C.cur (.inl rfl)
  have y10 : ρ'.b 10 = D.R := C.agree.b 10 (by decide)
  have y30 : ρ'.b 30 = D.s1 := C.agree.b 30 (by decide)
  have y31 : ρ'.b 31 = D.s2 := C.agree.b 31 (by decide)
  have M : Mem D th Inb (fun _ => 0) [] ⟨TA, cT, FA, cF, 0, 0, 0, 0, 0, 0⟩ w :=
    ⟨B.stat, B.run, fun h => B.arrT h, fun h => B.arrF h, fun h => absurd h (Nat.lt_irrefl 0), fun h => absurd h (Nat.lt_irrefl 0), fun h => absurd h (Nat.lt_irrefl 0), S.map, S.x, B.thr, B.inb, S.s1, S.s2, B.n0, B.bR, S.bX, S.bM, B.bS, B.chs, fun h => absurd h (Nat.lt_irrefl 0), fun h => absurd h (Nat.lt_irrefl 0), fun h => absurd h (Nat.lt_irrefl 0), by decide⟩
  exact ⟨_, fr', st', w1, C.at', fun i t LB lc ll xs => t' _ (by
    simp only [rL, sched, List.map_cons, List.map_nil, AV.evs, ptr0, i64, AV.ev, Option.map_some, AA.ev, BR.ev, IE.ev, y10, y30, y31]
    rfl), M.keepN C.keeps, S.rb.keep C.keeps (Nat.not_le.2 S.rb.lt), S.bB⟩
end Go.Proofs.Ythaddgfbohmfoaa
/-
  GateRounds: round by round, until nobody is ready. Conditions: none.
-/
set_option maxRecDepth 100000
set_option linter.unusedVariables false
set_option linter.unusedSimpArgs false
namespace Go.Proofs.Ythaddgfbohmfoaa
open Go.Proofs.Ythaddgfbohmfoaa.SX Go.Conc
open Go.ConcN (upd upd_ne upd_same)

theorem rounds {D : Dat} {W0 : World} {cs : List Frame} {th : Nat → Thr} {N RB : Nat} (hn : 0 < D.n) : ∀ (d : Nat) {Inb : Nat → Option Tok.Seat} {c : Nat → Nat} {g : List Nat} {r p : Nat} {Y : Lay} {w : World} {m : Machine} {T : Trace} {st : Nat → Value} {fr : Frame}, g.length + d = 1300 → Sch D c g r p → Mem D th Inb c g Y w → SAt Try.prog D.base W0 Inb 0 N m T (G fr cs) w → HdFr D Y st fr → ObjAt w RB rep0V 39 →
    Gets Try.prog m T fun m' T' => ∃ Inb' c' g' r' p' Y' w' fr' st', SAt Try.prog D.base W0 Inb' 0 N m' T' (G fr' cs) w' ∧ HdFr D Y' st' fr' ∧ Mem D th Inb' c' g' Y' w' ∧ Sch D c' g' r' p' ∧ noneYet (rdy D c' D.n) = true ∧ ObjAt w' RB rep0V 39 := by
  intro d
  induction d with
  | zero =>
    intro Inb c g r p Y w m T st fr h S M A hf hb
    have := S.small M.stat.n40
    omega
  | succ d ih =>
    intro Inb c g r p Y w m T st fr h S M A hf hb
    cases hr : noneYet (rdy D c D.n) with
    | true => exact Gets.refl ⟨_, _, _, _, _, _, _, _, _, A, hf, M, S, hr, hb⟩
    | false =>
      obtain ⟨j, r', p', hj, S'⟩ := S.next hr
      refine (round_all M hn (S.small M.stat.n40) A hf hr hj).trans fun m1 T1 hd => ?_
      obtain ⟨Inb', Y', w', fr', st', A', hf', M', hk⟩ := hd
      exact ih (by rw [List.length_append, List.length_singleton]; omega) S' M' A' hf' (hk _ _ hb)

/-- All have ended: nobody sits. -/
theorem nobody {D : Dat} {th : Nat → Thr} {Inb : Nat → Option Tok.Seat} {c : Nat → Nat} {g : List Nat} {Y : Lay} {w : World} (M : Mem D th Inb c g Y w) (h : ∀ j, j < D.n → c j = D.k j) : Inb = Nob := by
  funext k
  show Inb k = none
  cases e : Inb k with
  | none => rfl
  | some s =>
    obtain ⟨j, hj, rfl⟩ := M.inb k s e
    rcases (M.thr j hj).2 with ⟨h1, _⟩ | ⟨_, h1, _⟩
    · have := h j hj; omega
    · rw [h1] at e; cases e

/-- Memory when all is over. -/
structure Fin (D : Dat) (Y : Lay) (th : Nat → Thr) (g : List Nat) (e : Bool) (w : World) : Prop where
  run : ObjAt w D.R (runV D (hdV D.n Y.TA Y.cT) (hdV g.length Y.LA Y.cL) (hdV g.length Y.WA Y.cW) (hdV g.length Y.RA Y.cR) (hdV D.n Y.FA Y.cF) e) 87
  arrT : VecAt Try.prog w 30 Y.TA (psL D.n th) Y.cT
  arrF : VecAt Try.prog w 4 Y.FA (fsL D.n) Y.cF
  thr : ∀ j, j < D.n → Ty w (th j).T 78 ∧ w.cell? ⟨(th j).T, 13, none⟩ = some (.bool true)
  x : ObjAt w D.X [iV g.length] 28
  went : 0 < g.length → VecAt Try.prog w 3 Y.WA (intsL g) Y.cW
  box : ObjAt w D.OB [.slice (some ⟨D.ob, D.oo, none⟩) D.n D.oc] 22
  often : ∀ i, i < D.n → w.cell? ⟨D.ob, D.oo + i, none⟩ = some (.int .u8 (D.o i))
  s2 : ObjAt w D.s2 [ptrV D.R] 75
  old : D.ob < D.base
  o8 : ∀ i, D.o i < 256
  n40 : D.n ≤ 40
  bR : D.base ≤ D.R
  m : g.length ≤ 1300

theorem Mem.fin {D : Dat} {th : Nat → Thr} {Inb : Nat → Option Tok.Seat} {c : Nat → Nat} {g : List Nat} {Y : Lay} {w : World} (M : Mem D th Inb c g Y w) (hn : 0 < D.n) (h : ∀ j, j < D.n → c j = D.k j) : Fin D Y th g false w := by
  refine ⟨M.run, M.arrT hn, M.arrF hn, fun j hj => ⟨(M.thr j hj).1.T, ?_⟩, M.x, M.went, M.stat.box, M.stat.often, M.s2, M.stat.old, M.stat.o8, M.stat.n40, M.bR, M.m⟩
  rcases (M.thr j hj).2 with ⟨h1, _⟩ | ⟨_, _, vv, a, ha, oT⟩
  · have := h j hj; omega
  · refine oT.cell ?_
    unfold thrV
    rw [List.getElem?_append_right (by simp [ha]), List.length_append, ha]
    rfl

theorem Fin.keepO {D : Dat} {Y : Lay} {th : Nat → Thr} {g : List Nat} {e e' : Bool} {w w' : World} (F : Fin D Y th g e w) {own : Nat → Prop} (kp : Keeps own w w') (hb : ∀ b t, Ty w b t → t ≠ 39 → t ≠ 87 → ¬ own b) (hob : D.ob < w.heap.size → ¬ own D.ob) (hn : 0 < D.n)
    (hR : ObjAt w' D.R (runV D (hdV D.n Y.TA Y.cT) (hdV g.length Y.LA Y.cL) (hdV g.length Y.WA Y.cW) (hdV g.length Y.RA Y.cR) (hdV D.n Y.FA Y.cF) e') 87) : Fin D Y th g e' w' := by
  refine ⟨hR, F.arrT.keep kp (hb _ _ F.arrT.ty (by decide) (by decide)), F.arrF.keep kp (hb _ _ F.arrF.ty (by decide) (by decide)), fun j hj => ⟨(F.thr j hj).1.keep kp (hb _ _ (F.thr j hj).1 (by decide) (by decide)), ?_⟩, F.x.keep kp (hb _ _ F.x.ty (by decide) (by decide)), fun h => (F.went h).keep kp (hb _ _ (F.went h).ty (by decide) (by decide)), F.box.keep kp (hb _ _ F.box.ty (by decide) (by decide)), fun i hi => ?_, F.s2.keep kp (hb _ _ F.s2.ty (by decide) (by decide)), F.old, F.o8, F.n40, F.bR, F.m⟩
  · have := (F.thr j hj).2
    simp only [World.cell?] at this ⊢
    rw [kp.heap _ (hb _ _ (F.thr j hj).1 (by decide) (by decide))]; exact this
  · have := F.often i hi
    have hl : D.ob < w.heap.size := cellLt this
    simp only [World.cell?] at this ⊢
    rw [kp.heap _ (hob hl)]; exact this
theorem Fin.keepN {D : Dat} {Y : Lay} {th : Nat → Thr} {g : List Nat} {e : Bool} {w w' : World} (F : Fin D Y th g e w) (kp : Keeps (fun b => w.heap.size ≤ b) w w') (hn : 0 < D.n) : Fin D Y th g e w' :=
  F.keepO kp (fun b t h _ _ => Nat.not_le.2 h.lt) (fun h => Nat.not_le.2 h) hn (F.run.keep kp (Nat.not_le.2 F.run.lt))

/-- A loop, lap by lap. -/
theorem laps {P : Program} {n : Nat} {I : Nat → Machine → Trace → Prop} (step : ∀ i m T, i < n → I i m T → Gets P m T (I (i + 1))) : ∀ (d i : Nat) {m : Machine} {T : Trace}, i + d = n → I i m T → Gets P m T (I n) := by
  intro d
  induction d with
  | zero =>
    intro i m T h H
    obtain rfl : i = n := by omega
    exact Gets.refl H
  | succ d ih =>
    intro i m T h H
    exact (step i m T (by omega) H).trans fun m' T' H' => ih (i + 1) (by omega) H'
theorem add_one {i : Nat} (h : i ≤ 100000) : iop .add .i64 (i : Int) 1 = ((i + 1 : Nat) : Int) := by
  show IntKind.wrap .i64 ((i : Int) + 1) = _
  rw [wrapN (by omega)]; rfl
end Go.Proofs.Ythaddgfbohmfoaa

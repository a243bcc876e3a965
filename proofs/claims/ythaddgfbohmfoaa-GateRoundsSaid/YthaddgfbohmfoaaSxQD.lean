/-
  GateRounds: a body's turn: one addition, told; then it stands again, or it has ended. Conditions: none.
-/
import Derived.Test.YthaddgfbohmfoaaSxQC
set_option maxRecDepth 100000
set_option linter.unusedVariables false
set_option linter.unusedSimpArgs false
namespace Go.Proofs.Ythaddgfbohmfoaa
open Go.Proofs.Ythaddgfbohmfoaa.SX Go.Conc

noncomputable def trnE (D : Dat) (i k : Nat) (t : Thr) (AB mm LA cL : Nat) (xs : List Value) (r0 r3 r4 r5 : Value) : Env := mkE [(1, D.n), (2, i), (3, k), (4, D.o i), (7, D.oc), (8, D.oo), (29, D.cB), (36, mm), (37, mm), (38, cL)] [(9, D.ob), (10, D.R), (11, D.OB), (12, D.ci i), (13, D.X), (14, t.T), (15, D.MB), (16, t.c2), (17, t.c5), (18, t.c3), (25, AB), (26, t.wk), (27, t.sd), (28, D.BA), (30, D.s1), (31, D.s2), (39, LA)] [(44, r0), (45, r3), (46, r4), (47, r5), (48, .agg xs.toArray)]

def trnOwn (D : Dat) (t : Thr) (AB mm LA : Nat) (w : World) (b : Nat) : Prop := w.heap.size ≤ b ∨ b = AB ∨ b = t.T ∨ b = D.X ∨ b = D.R ∨ b = D.MB ∨ (0 < mm ∧ b = LA)
def mapV (D : Dat) (mm : Nat) : List (Value × Value) := match mm with
  | 0 => []
  | _ + 1 => [(ptrV D.X, iV 0)]

/-- What a turn finds. -/
structure Trn (D : Dat) (i k : Nat) (t : Thr) (AB mm LA cL : Nat) (xs : List Value) (r0 r3 r4 r5 : Value) (w : World) : Prop where
  stat : StatOk D w
  th : ThrOk D w i t
  T : ObjAt w t.T (thrV D i t (ptrV D.X) (atSV i) false) 78
  ab : AbObj D w AB i
  run : ObjAt w D.R (runV D r0 (hdV mm LA cL) r3 r4 r5 false) 87
  log : 0 < mm → xs.length = 8 * mm ∧ xs[2]? = some (iV 0) ∧ VecAt Try.prog w 61 LA xs cL
  map : MapAt w D.MB (mapV D mm)
  x : ObjAt w D.X [iV mm] 28
  bR : D.base ≤ D.R
  bX : D.base ≤ D.X
  bM : D.base ≤ D.MB
  bT : D.base ≤ t.T
  bL : 0 < mm → D.base ≤ LA
  m : mm ≤ 1300

section
variable {D : Dat} {W0 : World} {Inb : Nat → Option Tok.Seat} {h N : Nat} {m : Machine} {T : Trace} {w : World} {i k : Nat} {t : Thr} {AB mm LA cL : Nat} {xs : List Value} {r0 r3 r4 r5 : Value}

theorem Trn.own (M : Trn D i k t AB mm LA cL xs r0 r3 r4 r5 w) {a : Goroutine} (A : SAt Try.prog D.base W0 Inb h N m T a w) : ∀ b, trnOwn D t AB mm LA w b → (SK Try.prog D.base Inb).own b := by
  have nc : ∀ {b : Nat} {e : TypeId}, Ty w b e → ¬ chanOf Inb b := fun hb ⟨g, s, e, ec⟩ => hb.noChan (A.chan e) ec.symm
  rintro b (hb | rfl | rfl | rfl | rfl | rfl | ⟨h0, rfl⟩)
  · exact A.new b hb
  · exact ⟨M.ab.ge, nc M.ab.ty⟩
  · exact ⟨M.bT, nc M.th.T⟩
  · exact ⟨M.bX, nc M.x.ty⟩
  · exact ⟨M.bR, nc M.run.ty⟩
  · exact ⟨M.bM, fun ⟨g, s, e, ec⟩ => M.map.noChan (A.chan e) ec.symm⟩
  · exact ⟨M.bL h0, nc (M.log h0).2.2.ty⟩
theorem Trn.notOwn (M : Trn D i k t AB mm LA cL xs r0 r3 r4 r5 w) {b : Nat} {e : TypeId} (hb : Ty w b e) (h1 : e ≠ 61) (h2 : e ≠ 78) (h3 : e ≠ 28) (h4 : e ≠ 87) : ¬ trnOwn D t AB mm LA w b := by
  rintro (h | rfl | rfl | rfl | rfl | rfl | ⟨h0, rfl⟩)
  · exact Nat.not_lt.2 h hb.lt
  · exact hb.ne M.ab.ty h1 rfl
  · exact hb.ne M.th.T h2 rfl
  · exact hb.ne M.x.ty h3 rfl
  · exact hb.ne M.run.ty h4 rfl
  · exact M.map.noTy hb rfl
  · exact hb.ne (M.log h0).2.2.ty h1 rfl
theorem Trn.abLA (M : Trn D i k t AB mm LA cL xs r0 r3 r4 r5 w) (h0 : 0 < mm) : LA ≠ AB := fun e => by
  obtain ⟨h1, h2, h3⟩ := M.log h0
  have c1 := h3.arr 2 _ h2
  have c2 : w.cell? ⟨AB, 2, none⟩ = some (iV (-1)) := M.ab.obj.cell rfl
  rw [Nat.zero_add, e, c2] at c1
  cases c1
theorem Trn.mem (M : Trn D i k t AB mm LA cL xs r0 r3 r4 r5 w) (hi : i < D.n) : ∀ p ∈ memT, ¬ trnOwn D t AB mm LA w (p.1.ev (trnE D i k t AB mm LA cL xs r0 r3 r4 r5)).block ∧ w.cell? (p.1.ev (trnE D i k t AB mm LA cL xs r0 r3 r4 r5)) = some (p.2.ev (trnE D i k t AB mm LA cL xs r0 r3 r4 r5)) := fun p hp => by
  simp only [memT, List.mem_cons, List.not_mem_nil, or_false] at hp
  rcases hp with rfl | rfl | rfl | rfl | rfl
  · exact ⟨M.notOwn M.th.c2.ty (by decide) (by decide) (by decide) (by decide), M.th.c2.cell rfl⟩
  · exact ⟨M.notOwn M.th.c5.ty (by decide) (by decide) (by decide) (by decide), M.th.c5.cell rfl⟩
  · exact ⟨M.notOwn M.stat.box.ty (by decide) (by decide) (by decide) (by decide), M.stat.box.cell rfl⟩
  · exact ⟨M.notOwn (M.stat.ci i hi).ty (by decide) (by decide) (by decide) (by decide), (M.stat.ci i hi).cell rfl⟩
  · refine ⟨fun x => ?_, M.stat.often i hi⟩
    have hlt : D.ob < w.heap.size := cellLt (M.stat.often i hi)
    have ho := M.stat.old
    have x' : trnOwn D t AB mm LA w D.ob := x
    have := M.ab.ge
    have := M.bT
    have := M.bX
    have := M.bR
    have := M.bM
    rcases x' with x | x | x | x | x | x | ⟨h0, x⟩
    all_goals first | omega | (have := M.bL h0; omega)

theorem u8_succ {k : Nat} (h : k < 255) : iop .add .u8 (k : Int) 1 = ((k + 1 : Nat) : Int) := by
  show IntKind.wrap .u8 ((k : Int) + 1) = _
  rw [IntWalk.u8_in _ (by omega)]
  rfl
theorem Trn.hall (y : Bool) {p : Nat × ABlk} (hp : p ∈ hpR y) : (y = false ∧ p = (39, .pre false 48 (v 36) [] [] [] 61 (v 38))) ∨ p = (25, .cells atS 61) ∨ p = (15, .map (mapT y)) ∨ p = (14, .lent (thrC (v 2) 14 26 27 (ptr0 13) atS ff) 78 [3]) ∨ p = (13, .cells [i64 (v 37)] 28) ∨ p = (10, .cells (runT y) 87) := by
  cases y <;> simp only [hpR, List.cons_append, List.nil_append, List.mem_cons, List.not_mem_nil, or_false] at hp
  · rcases hp with h | h
    · exact .inl ⟨rfl, h⟩
    · exact .inr h
  · exact .inr hp
theorem size61 (inf : TypeInfo) (hi : Try.prog.info? 61 = some inf) : inf.size = 8 := by
  have e2 : (Try.prog.info? 61).map (fun x => x.size) = some 8 := by kernel_rfl
  rw [hi] at e2
  exact Option.some.inj e2
def zero? (mm : Nat) : Bool := match mm with
  | 0 => true
  | _ + 1 => false
theorem zero_f {mm : Nat} (h : zero? mm = false) : 0 < mm := by
  cases mm with
  | zero => cases h
  | succ n => exact Nat.succ_pos _
theorem zero_t {mm : Nat} (h : zero? mm = true) : mm = 0 := by
  cases mm with
  | zero => rfl
  | succ n => cases h
theorem Trn.h1 (M : Trn D i k t AB mm LA cL xs r0 r3 r4 r5 w) : ∀ p ∈ hpR (zero? mm), ∃ o, w.heap[(trnE D i k t AB mm LA cL xs r0 r3 r4 r5).b p.1]? = some o ∧ p.2.is Try.prog (trnE D i k t AB mm LA cL xs r0 r3 r4 r5) o := fun p hp => by
  rcases Trn.hall _ hp with ⟨h, rfl⟩ | rfl | rfl | rfl | rfl | rfl
  · obtain ⟨l1, l2, l3⟩ := M.log (zero_f h)
    exact l3.is (ρ := trnE D i k t AB mm LA cL xs r0 r3 r4 r5) rfl (fun inf hinf => by
      rw [size61 inf hinf, l1]
      show 8 * mm = ((mm : Nat) : Int).toNat * 8
      omega) (fun p hp => by cases hp) rfl
  · exact ObjAt.is (P := Try.prog) (ρ := trnE D i k t AB mm LA cL xs r0 r3 r4 r5) M.ab.obj
  · obtain ⟨arr, clk, m1, m2⟩ := M.map
    refine ⟨_, m1, .inr ⟨arr, clk, rfl, ?_⟩⟩
    rw [m2]
    cases mm <;> rfl
  · exact ObjAt.isLent (P := Try.prog) (ρ := trnE D i k t AB mm LA cL xs r0 r3 r4 r5) M.T
  · exact ObjAt.is (P := Try.prog) (ρ := trnE D i k t AB mm LA cL xs r0 r3 r4 r5) M.x
  · refine ObjAt.is (P := Try.prog) (ρ := trnE D i k t AB mm LA cL xs r0 r3 r4 r5) ?_
    have := M.run
    cases mm <;> exact this
theorem Trn.h2 (M : Trn D i k t AB mm LA cL xs r0 r3 r4 r5 w) : ∀ p ∈ hpR (zero? mm), trnOwn D t AB mm LA w ((trnE D i k t AB mm LA cL xs r0 r3 r4 r5).b p.1) := fun p hp => by
  rcases Trn.hall _ hp with ⟨h, rfl⟩ | rfl | rfl | rfl | rfl | rfl
  · exact .inr (.inr (.inr (.inr (.inr (.inr ⟨zero_f h, rfl⟩)))))
  · exact .inr (.inl rfl)
  · exact .inr (.inr (.inr (.inr (.inr (.inl rfl)))))
  · exact .inr (.inr (.inl rfl))
  · exact .inr (.inr (.inr (.inl rfl)))
  · exact .inr (.inr (.inr (.inr (.inl rfl))))
theorem Trn.h3 (M : Trn D i k t AB mm LA cL xs r0 r3 r4 r5 w) : ((hpR (zero? mm)).map fun p => (trnE D i k t AB mm LA cL xs r0 r3 r4 r5).b p.1).Nodup := by
  have a1 : AB ≠ D.MB := fun e => M.map.noTy M.ab.ty e.symm
  have a2 : AB ≠ t.T := M.ab.ty.ne M.th.T (by decide)
  have a3 : AB ≠ D.X := M.ab.ty.ne M.x.ty (by decide)
  have a4 : AB ≠ D.R := M.ab.ty.ne M.run.ty (by decide)
  have b1 : D.MB ≠ t.T := M.map.noTy M.th.T
  have b2 : D.MB ≠ D.X := M.map.noTy M.x.ty
  have b3 : D.MB ≠ D.R := M.map.noTy M.run.ty
  have c1 : t.T ≠ D.X := M.th.T.ne M.x.ty (by decide)
  have c2 : t.T ≠ D.R := M.th.T.ne M.run.ty (by decide)
  have d1 : D.X ≠ D.R := M.x.ty.ne M.run.ty (by decide)
  cases hz : zero? mm with
  | true =>
    show [AB, D.MB, t.T, D.X, D.R].Nodup
    simp [a1, a2, a3, a4, b1, b2, b3, c1, c2, d1]
  | false =>
    have h0 := zero_f hz
    have l := (M.log h0).2.2.ty
    have e0 := M.abLA h0
    have e1 : LA ≠ D.MB := fun e => M.map.noTy l e.symm
    have e2 : LA ≠ t.T := l.ne M.th.T (by decide)
    have e3 : LA ≠ D.X := l.ne M.x.ty (by decide)
    have e4 : LA ≠ D.R := l.ne M.run.ty (by decide)
    show [LA, AB, D.MB, t.T, D.X, D.R].Nodup
    simp [a1, a2, a3, a4, b1, b2, b3, c1, c2, d1, e0, e1, e2, e3, e4]
/-- What the others, and main, look at. -/
def TrnStill (Inb : Nat → Option Tok.Seat) (w : World) (t : Thr) : Prop := ∀ b n, stillI Inb b n → Ty w b 78 ∧ (b = t.T → n = 3)
theorem Trn.h4 (M : Trn D i k t AB mm LA cL xs r0 r3 r4 r5 w) (hst : TrnStill Inb w t) : ∀ p ∈ hpR (zero? mm), ∀ n, stillI Inb ((trnE D i k t AB mm LA cL xs r0 r3 r4 r5).b p.1) n → p.2.lentAt Try.prog (trnE D i k t AB mm LA cL xs r0 r3 r4 r5) n := fun p hp n hn => by
  obtain ⟨h78, h3⟩ := hst _ _ hn
  rcases Trn.hall _ hp with ⟨h, rfl⟩ | rfl | rfl | rfl | rfl | rfl
  · exact absurd rfl ((M.log (zero_f h)).2.2.ty.ne h78 (by decide))
  · exact absurd rfl (M.ab.ty.ne h78 (by decide))
  · exact absurd rfl (M.map.noTy h78)
  · obtain rfl := h3 rfl
    exact lentAt_of rfl
  · exact absurd rfl (M.x.ty.ne h78 (by decide))
  · exact absurd rfl (M.run.ty.ne h78 (by decide))
theorem Trn.hb (M : Trn D i k t AB mm LA cL xs r0 r3 r4 r5 w) (hi : i < D.n) (hk : k < D.k i) : ∀ b, decide (k + 1 < D.k i) = b → ∀ p ∈ bsT (zero? mm) b, p.1.ev (trnE D i k t AB mm LA cL xs r0 r3 r4 r5) = p.2 := fun b hb p hp => by
  have hm := M.m
  have hk32 : D.k i < 32 := Nat.mod_lt _ (by decide)
  have e8 : (trnE D i k t AB mm LA cL xs r0 r3 r4 r5).i 4 = (D.o i : Nat) := rfl
  have hp' : p = (.cmp .lss (v 2) (.tn (v 1)), true) ∨ p = (.cmp .leq (.lit 0) (v 2), true) ∨ p = (.cmp .lss (.op .add .u8 (v 3) (.lit 1)) modE, b) ∨ p = (.cmp .leq (.plus (.tn (v 36)) (.lit 1)) (.lit 1048576), true) := by
    cases hz : zero? mm <;> rw [hz] at hp <;> simp only [bsT, List.append_nil, List.cons_append, List.nil_append, List.mem_cons, List.not_mem_nil, or_false] at hp
    · exact hp
    · rcases hp with h | h | h
      · exact .inl h
      · exact .inr (.inl h)
      · exact .inr (.inr (.inl h))
  rcases hp' with rfl | rfl | rfl | rfl
  · show decide ((i : Int) < (((D.n : Nat) : Int).toNat : Int)) = true
    exact decide_eq_true (by omega)
  · show decide ((0 : Int) ≤ (i : Int)) = true
    exact decide_eq_true (by omega)
  · show decide (iop .add .u8 (k : Int) 1 < modE.ev (trnE D i k t AB mm LA cL xs r0 r3 r4 r5)) = b
    rw [mod_ev e8 (M.stat.o8 i), u8_succ (by omega), ← hb]
    show decide (((k + 1 : Nat) : Int) < ((D.k i : Nat) : Int)) = decide (k + 1 < D.k i)
    by_cases h0 : k + 1 < D.k i
    · rw [decide_eq_true h0]; exact decide_eq_true (by omega)
    · rw [decide_eq_false h0]; exact decide_eq_false (by omega)
  · show decide (((((mm : Nat) : Int).toNat : Nat) : Int) + 1 ≤ 1048576) = true
    exact decide_eq_true (by omega)

/-- What a turn comes to. -/
def TurnEnd (D : Dat) (W0 : World) (Inb : Nat → Option Tok.Seat) (h N : Nat) (w : World) (i k : Nat) (t : Thr) (AB mm LA : Nat) (r0 r3 r4 r5 : Value) (tM : Tok.Seat) (m' : Machine) (T' : Trace) : Prop :=
  ∃ so g₂ w' LA' cL' xs', SAt Try.prog D.base W0 (Tok.pass Inb h 0 so) 0 N m' T' (Conc.served g₂ (recvd tM.ok (.agg #[]) true)) w' ∧ tM.home g₂ ∧ Keeps (fun b => trnOwn D t AB mm LA w b ∨ b = t.sd) w w' ∧ ChanAt w' t.sd ∧ Ty w' t.T 78 ∧ Now D w' i (k + 1) t so ∧
    ObjAt w' D.R (runV D r0 (hdV (mm + 1) LA' cL') r3 r4 r5 false) 87 ∧ (xs'.length = 8 * (mm + 1) ∧ xs'[2]? = some (iV 0) ∧ VecAt Try.prog w' 61 LA' xs' cL') ∧ trnOwn D t AB mm LA w LA' ∧ MapAt w' D.MB (mapV D (mm + 1)) ∧ ObjAt w' D.X [iV (mm + 1 : Nat)] 28

/-- What a turn leaves in memory, ahead of its send. -/
structure Left (D : Dat) (i : Nat) (t : Thr) (AB mm LA : Nat) (r0 r3 r4 r5 : Value) (w w1 : World) (e : Bool) (LA' cL' : Nat) (xs' : List Value) : Prop where
  run : ObjAt w1 D.R (runV D r0 (hdV (mm + 1) LA' cL') r3 r4 r5 false) 87
  log : xs'.length = 8 * (mm + 1) ∧ xs'[2]? = some (iV 0) ∧ VecAt Try.prog w1 61 LA' xs' cL'
  own : trnOwn D t AB mm LA w LA'
  map : MapAt w1 D.MB (mapV D (mm + 1))
  x : ObjAt w1 D.X [iV (mm + 1 : Nat)] 28
  T : ObjAt w1 t.T (thrV D i t (ptrV D.X) (atSV i) e) 78

theorem Trn.left (M : Trn D i k t AB mm LA cL xs r0 r3 r4 r5 w) {w1 : World} {ρ' : Env} {hh : AH} {e : Bool} {bs : List (BE × Bool)} {hp0 : List (Nat × ABlk)} (Ag : Agree (Below 100) (trnE D i k t AB mm LA cL xs r0 r3 r4 r5) ρ') (hhp : hh.hp = hp0 ++ hpR' (zero? mm) (.bool (.lit e))) (h0 : hp0 = [] ∨ hp0 = [(102, .cells atS 61)])
    (Rl : Rel ((SK Try.prog D.base Inb).sub (OO bs [] memT) (trnOwn D t AB mm LA w) fun _ _ => False) ρ' hh w1) : Left D i t AB mm LA r0 r3 r4 r5 w w1 e (ρ'.b 101) (ρ'.i 101).toNat ((if 0 < mm then xs else []) ++ AV.evs ρ' logT) := by
  have hm := M.m
  have fnd : ∀ {n : Nat} {b : ABlk}, n ≠ 102 → findB n (hpR' (zero? mm) (.bool (.lit e))) = some b → findB n hh.hp = some b := fun {n b} hn h => by
    rw [hhp]
    rcases h0 with rfl | rfl
    · exact h
    · rw [List.singleton_append]
      have : Nat.beq n 102 = false := by
        cases e : Nat.beq n 102 with
        | false => rfl
        | true => exact absurd (Nat.eq_of_beq_eq_true e) hn
      simp [findB, this] at h ⊢
      exact h
  have f1 : findB 101 hh.hp = some (logB (zero? mm)) := fnd (by decide) rfl
  have f2 : findB 15 hh.hp = some (.map [(ptr0 13, i64 (.lit 0))]) := fnd (by decide) rfl
  have f3 : findB 14 hh.hp = some (.lent (thrC (v 2) 14 26 27 (ptr0 13) atS (.bool (.lit e))) 78 [3]) := fnd (by decide) rfl
  have f4 : findB 13 hh.hp = some (.cells [i64 xT] 28) := fnd (by decide) rfl
  have f5 : findB 10 hh.hp = some (.cells (runT' (zero? mm)) 87) := fnd (by decide) rfl
  have y10 : ρ'.b 10 = D.R := Ag.b 10 (by decide)
  have y13 : ρ'.b 13 = D.X := Ag.b 13 (by decide)
  have y14 : ρ'.b 14 = t.T := Ag.b 14 (by decide)
  have y15 : ρ'.b 15 = D.MB := Ag.b 15 (by decide)
  have y26 : ρ'.b 26 = t.wk := Ag.b 26 (by decide)
  have y27 : ρ'.b 27 = t.sd := Ag.b 27 (by decide)
  have x2 : ρ'.i 2 = i := Ag.i 2 (by decide)
  have x36 : ρ'.i 36 = mm := Ag.i 36 (by decide)
  have x37 : ρ'.i 37 = mm := Ag.i 37 (by decide)
  have v44 : ρ'.v 44 = r0 := by rw [Ag.v]; rfl
  have v45 : ρ'.v 45 = r3 := by rw [Ag.v]; rfl
  have v46 : ρ'.v 46 = r4 := by rw [Ag.v]; rfl
  have v47 : ρ'.v 47 = r5 := by rw [Ag.v]; rfl
  have v48 : ρ'.v 48 = .agg xs.toArray := by rw [Ag.v]; rfl
  have ex : iop .add .i64 (mm : Int) 1 = ((mm + 1 : Nat) : Int) := by
    show IntKind.wrap .i64 ((mm : Int) + 1) = _
    rw [wrapN (by omega)]; rfl
  have oR := obj_of_cells Rl f5
  have oX := obj_of_cells Rl f4
  have oT := obj_of_lent Rl f3
  have eR : AV.evs ρ' (runT' (zero? mm)) = runV D r0 (hdV (mm + 1) (ρ'.b 101) (ρ'.i 101).toNat) r3 r4 r5 false := by
    cases mm with
    | zero =>
      simp only [runT', zero?, slc, AV.evs, ff, AV.ev, v, Option.map_some, AA.ev, BR.ev, IE.ev, BE.ev, y15, v44, v45, v46, v47]
      rfl
    | succ mm =>
      simp only [runT', zero?, slc, AV.evs, ff, AV.ev, v, Option.map_some, AA.ev, BR.ev, IE.ev, BE.ev, y15, x36, v44, v45, v46, v47]
      rfl
  have eX : AV.evs ρ' [i64 xT] = [iV (mm + 1 : Nat)] := by
    simp only [xT, AV.evs, i64, v, AV.ev, IE.ev, x37, ex]
    rfl
  have eT : AV.evs ρ' (thrC (v 2) 14 26 27 (ptr0 13) atS (.bool (.lit e))) = thrV D i t (ptrV D.X) (atSV i) e := by
    simp only [thrC, atS, chb, ptr0, List.cons_append, List.nil_append, AV.evs, i64, ff, AV.ev, v, Option.map_some, AA.ev, BR.ev, IE.ev, BE.ev, x2, y10, y13, y26, y27]
    rfl
  rw [eR, y10] at oR
  rw [eX, y13] at oX
  rw [eT, y14] at oT
  have eL : (AV.evs ρ' logT)[2]? = some (iV 0) := rfl
  have lL : (AV.evs ρ' logT).length = 8 := rfl
  refine ⟨oR, ?_, ?_, ?_, oX, oT⟩
  · cases mm with
    | zero =>
      have h := vec_of_row Rl f1
      exact ⟨by simp [lL], eL, h⟩
    | succ mm =>
      have h := vec_of_pre Rl f1 v48
      obtain ⟨l1, l2, l3⟩ := M.log (Nat.succ_pos mm)
      rw [if_pos (Nat.succ_pos mm)]
      refine ⟨by rw [List.length_append, l1, lL]; omega, ?_, h⟩
      rw [List.getElem?_append_left (by rw [l1]; omega)]
      exact l2
  · have : (logB (zero? mm)).isChan = false := by cases zero? mm <;> rfl
    exact Rl.own _ _ f1 this
  · obtain ⟨o, ho, hi⟩ := Rl.blk _ _ f2
    rcases hi with ⟨arr, rfl, hf⟩ | ⟨arr, clk, rfl, he⟩
    · exact hf.elim
    · rw [y15] at ho
      refine ⟨arr, clk, ho, ?_⟩
      rw [he]
      simp only [List.map_cons, List.map_nil, ptr0, i64, AV.ev, Option.map_some, AA.ev, BR.ev, IE.ev, y13]
      rfl
end
end Go.Proofs.Ythaddgfbohmfoaa
/-
  GateRounds: a body's turn, up to main's holding again. Conditions: none.
-/
set_option maxRecDepth 100000
set_option linter.unusedVariables false
set_option linter.unusedSimpArgs false
namespace Go.Proofs.Ythaddgfbohmfoaa
open Go.Proofs.Ythaddgfbohmfoaa.SX Go.Conc

section
variable {D : Dat} {W0 : World} {Inb : Nat → Option Tok.Seat} {h N : Nat} {m : Machine} {T : Trace} {w : World} {i k : Nat} {t : Thr} {AB mm LA cL : Nat} {xs : List Value} {r0 r3 r4 r5 : Value}

theorem turn {fr : Frame} {frs : List Frame} {s33 s11 s10 s76 : Nat → Value} (hi : i < D.n) (hk : k < D.k i) (A : SAt Try.prog D.base W0 Inb h N m T (G fr (frs ++ [baseF Try.prog])) w) (hf : FrRel Try.prog (stE D i k t AB) (stBk s33) fr) (hfs : FrRels Try.prog (stE D i k t AB) (stCl s11 s10 s76) frs)
    (M : Trn D i k t AB mm LA cL xs r0 r3 r4 r5 w) (hst : TrnStill Inb w t) {tM : Tok.Seat} (hM : Inb 0 = some tM) (hMc : tM.c = t.sd) (hpos : 0 < h) (hap : ∀ x s, Inb x = some s → s.c ≠ t.wk) (hwb : D.base ≤ t.wk) :
    Gets Try.prog m T (TurnEnd D W0 Inb h N w i k t AB mm LA r0 r3 r4 r5 tM) := by
  obtain ⟨f11, f10, f76, rfl, r11, r10, r76⟩ := frs_three hfs
  obtain ⟨a33, u33⟩ := FrRel.toldF hf (lv := [(0, ptr0 14)]) (stBkSeen s33) (.inl rfl)
  obtain ⟨a11, u11⟩ := FrRel.toldF r11 (lv := spK) (spSeen s11) (.inl rfl)
  obtain ⟨a10, u10⟩ := FrRel.toldF r10 (lv := cbK) (cbSeen s10) (.inl rfl)
  obtain ⟨a76, u76⟩ := FrRel.toldD r76 (lv := []) (chSeen s76) (.inr rfl)
  have g33 : FrRel Try.prog (trnE D i k t AB mm LA cL xs r0 r3 r4 r5) (stN a33) fr := u33 _ rfl
  have g11 : FrRel Try.prog (trnE D i k t AB mm LA cL xs r0 r3 r4 r5) (spW a11) f11 := u11 _ rfl
  have g10 : FrRel Try.prog (trnE D i k t AB mm LA cL xs r0 r3 r4 r5) (cbW a10) f10 := u10 _ rfl
  have g76 : FrRel Try.prog (trnE D i k t AB mm LA cL xs r0 r3 r4 r5) (chW a76) f76 := u76 _ (dfr 16 17) rfl rfl
  have nwk : ¬ trnOwn D t AB mm LA w t.wk := by
    rintro (x | x | x | x | x | x | ⟨h0, x⟩)
    · exact Nat.not_lt.2 x M.th.wk.lt
    · exact M.ab.ty.noChan M.th.wk x.symm
    · exact M.th.T.noChan M.th.wk x.symm
    · exact M.x.ty.noChan M.th.wk x.symm
    · exact M.run.ty.noChan M.th.wk x.symm
    · exact M.map.noChan M.th.wk x.symm
    · exact (M.log h0).2.2.ty.noChan M.th.wk x.symm
  by_cases hk1 : k + 1 < D.k i
  · refine (walkP (cs := [baseF Try.prog]) (frs := [f11, f10, f76]) A (M.own A) (fun n hn => .inl hn) (t1A (zero? mm) a33 a11 a10 a76) (t1Low (zero? mm) a33 a11 a10 a76) (t1O (zero? mm) true) g33 ⟨g11, g10, g76, trivial⟩ (M.hb hi hk true (decide_eq_true hk1)) (M.mem hi) M.h1 M.h2 M.h3 (M.h4 hst)).trans fun m1 T1 hd => ?_
    obtain ⟨w1, ρ', hh, a1, cl, fr', frs', C⟩ := hd
    have L := M.left (e := false) (hp0 := [(102, .cells atS 61)]) C.agree C.hp (.inr rfl) C.rel
    obtain ⟨s33', t33⟩ := FrRel.toldF C.fr (lv := [(0, ptr0 14), (25, chb 27), (26, UN)]) C.cur (.inl rfl)
    obtain ⟨b11, b10, b76, rfl, e11, e10, e76⟩ := map_three C.cls
    obtain ⟨p11, p10, p76, rfl, q11, q10, q76⟩ := frs_three C.frs
    have n11 : b11.fn = 11 := congrArg Seen.fn e11
    have n10 : b10.fn = 10 := congrArg Seen.fn e10
    have n76 : b76.fn = 76 := congrArg Seen.fn e76
    rw [n11] at e11
    rw [n10] at e10
    rw [n76] at e76
    obtain ⟨s11', t11⟩ := FrRel.toldF q11 (lv := [(0, ptr0 14), (1, ptr0 13), (2, .int .i8 (.lit 4)), (3, i64 (.lit 1)), (4, i64 (.lit 0)), (13, ptr0 25)]) e11 (.inl rfl)
    obtain ⟨s10', t10⟩ := FrRel.toldF q10 (lv := [(0, ptr0 14), (1, ptr0 11), (2, ptr0 12), (3, ptr0 13), (5, .int .u8 (v 3))]) e10 (.inl rfl)
    obtain ⟨s76', t76⟩ := FrRel.toldD q76 (lv := []) e76 (.inr rfl)
    have fAB : findB 102 hh.hp = some (.cells atS 61) := by rw [C.hp]; rfl
    have y14 : ρ'.b 14 = t.T := C.agree.b 14 (by decide)
    have y11 : ρ'.b 11 = D.OB := C.agree.b 11 (by decide)
    have y12 : ρ'.b 12 = D.ci i := C.agree.b 12 (by decide)
    have y13 : ρ'.b 13 = D.X := C.agree.b 13 (by decide)
    have y16 : ρ'.b 16 = t.c2 := C.agree.b 16 (by decide)
    have y17 : ρ'.b 17 = t.c5 := C.agree.b 17 (by decide)
    have y27 : ρ'.b 27 = t.sd := C.agree.b 27 (by decide)
    have x2 : ρ'.i 2 = i := C.agree.i 2 (by decide)
    have x3 : ρ'.i 3 = k := C.agree.i 3 (by decide)
    have hk32 : D.k i < 32 := Nat.mod_lt _ (by decide)
    have oAB := obj_of_cells C.rel fAB
    have gAB : D.base ≤ ρ'.b 102 := (M.own A _ (C.rel.own _ _ fAB rfl)).1
    have eAB : AV.evs ρ' atS = atSV i := by
      simp only [atS, AV.evs, i64, ff, AV.ev, v, IE.ev, BE.ev, x2]
      rfl
    rw [eAB] at oAB
    generalize hAB : ρ'.b 102 = AB' at *
    have z33 := t33 (stE D i (k + 1) t AB') (by
      simp only [List.map_cons, List.map_nil, AV.evs, chb, ptr0, UN, AV.ev, Option.map_some, AA.ev, BR.ev, IE.ev, y14, y27]
      rfl)
    have z11 := t11 (stE D i (k + 1) t AB') (by
      simp only [List.map_cons, List.map_nil, spV, AV.evs, chb, ptr0, i64, AV.ev, Option.map_some, AA.ev, BR.ev, IE.ev, y14, y13, hAB]
      rfl)
    have z10 := t10 (stE D i (k + 1) t AB') (by
      simp only [List.map_cons, List.map_nil, cbV, AV.evs, chb, ptr0, i64, AV.ev, Option.map_some, AA.ev, BR.ev, IE.ev, v, y14, y13, y11, y12, x3, u8_succ (show k < 255 by omega)]
      rfl)
    have z76 := t76 (stE D i (k + 1) t AB') (dfr 16 17) rfl (by
      simp only [dfr, List.map_cons, List.map_nil, AD.ev, ATarget.ev, AV.evs, ptr0, AV.ev, Option.map_some, AA.ev, BR.ev, IE.ev, y16, y17]
      rfl)
    have hlow := low_ids (stLow s33' s11' s10' s76')
    have kn : Known (OLm stWt) (stE D i (k + 1) t AB') w1 := ⟨fun p hp => (by cases hp), fun p hp => (by cases hp), fun p hp => by
      obtain rfl := List.mem_singleton.1 hp
      exact L.T.cell rfl⟩
    have hwk1 : ChanAt w1 t.wk := M.th.wk.keep C.keeps nwk
    refine (SAt.give (c := ⟨stSd33 s33', stCl s11' s10' s76', e0⟩) (cs := [baseF Try.prog]) (ρ := stE D i (k + 1) t AB') (U := Below 100) C.at' ⟨fr', [p11, p10, p76], z33, ⟨z11, z10, z76, trivial⟩, rfl⟩ ⟨hlow.cur, hlow.callers⟩ (stSend s33') hM hMc (so := some (stSeat D i (k + 1) t AB' s33' s11' s10' s76' w1.heap.size)) (fun s' e => by
        cases e
        exact ⟨mkSeat_fresh kn hwk1 hap, mkSeat_ok rfl rfl hwb⟩) (fun g I' Γ' => ⟨_, fun T' _ => mkSeat_sits (bare_snd stWt) (ol_in fun p hp => by
        obtain rfl := List.mem_singleton.1 hp
        exact ⟨⟨(by decide : (14 : Nat) < 100), trivial⟩, (by decide : (26 : Nat) < 100)⟩) (stWay s33' _) (stRecv s33' _) I' Γ' kn _⟩)).mono fun m2 T2 hd => ?_
    obtain ⟨g₂, d, kk, A2, hhome, hch⟩ := hd
    rw [hMc] at hch A2
    have kp2 := keeps_set w1 d t.sd (kk + 1)
    have hsd1 : ChanAt w1 t.sd := ⟨kk, hch⟩
    have nc : ∀ {b : Nat} {e : TypeId}, Ty w1 b e → ¬ (b = t.sd) := fun hb e => hb.noChan hsd1 e
    exact ⟨_, g₂, _, _, _, _, A2, hhome, (C.keeps.mono fun b hb => .inl hb).trans (kp2.mono fun b hb => .inr hb), chan_set hch, (L.T.keep kp2 (nc L.T.ty)).ty, .inl ⟨hk1, AB', s33', s11', s10', s76', _, rfl, ⟨oAB.keep kp2 (nc oAB.ty), gAB⟩, L.T.keep kp2 (nc L.T.ty)⟩,
      L.run.keep kp2 (nc L.run.ty), ⟨L.log.1, L.log.2.1, L.log.2.2.keep kp2 (nc L.log.2.2.ty)⟩, L.own, L.map.keep kp2 (fun e => L.map.noChan hsd1 e), L.x.keep kp2 (nc L.x.ty)⟩
  · refine (walkE (cs := [baseF Try.prog]) (frs := [f11, f10, f76]) A (M.own A) (fun n hn => .inl hn) (t1B (zero? mm) a33 a11 a10 a76) (t1Low (zero? mm) a33 a11 a10 a76) (t1O (zero? mm) false) g33 ⟨g11, g10, g76, trivial⟩ (M.hb hi hk false (decide_eq_false hk1)) (M.mem hi) M.h1 M.h2 M.h3 (M.h4 hst)).trans fun m1 T1 hd => ?_
    obtain ⟨a', w1, ρ', U', A1, Ag, kp, I, Γ, Rl⟩ := hd
    have L := M.left (e := true) (hp0 := []) Ag (t1Bhp (zero? mm) a33 a11 a10 a76) (.inl rfl) Rl
    have y27 : ρ'.b 27 = t.sd := Ag.b 27 (by decide)
    refine (SAt.give (cs := [baseF Try.prog]) A1 Γ I (t1Bsend (zero? mm) a33 a11 a10 a76) hM (hMc.trans y27.symm) (so := none) (fun s' e => by cases e) (fun g I' Γ' => by
      obtain ⟨mq, hq⟩ := leave_quits (O := OLm []) rfl rfl rfl (bare_snd []) (ol_in fun p hp => by cases hp) (t1Bleave (zero? mm) a33 a11 a10 a76) I' Γ'
      exact ⟨mq, fun T' hD => ⟨hpos, by rw [hD]; exact hq⟩⟩)).mono fun m2 T2 hd => ?_
    obtain ⟨g₂, d, kk, A2, hhome, hch⟩ := hd
    rw [hMc] at hch A2
    have kp2 := keeps_set w1 d t.sd (kk + 1)
    have hsd1 : ChanAt w1 t.sd := ⟨kk, hch⟩
    have nc : ∀ {b : Nat} {e : TypeId}, Ty w1 b e → ¬ (b = t.sd) := fun hb e => hb.noChan hsd1 e
    exact ⟨_, g₂, _, _, _, _, A2, hhome, (kp.mono fun b hb => .inl hb).trans (kp2.mono fun b hb => .inr hb), chan_set hch, (L.T.keep kp2 (nc L.T.ty)).ty, .inr ⟨by omega, rfl, _, _, rfl, L.T.keep kp2 (nc L.T.ty)⟩,
      L.run.keep kp2 (nc L.run.ty), ⟨L.log.1, L.log.2.1, L.log.2.2.keep kp2 (nc L.log.2.2.ty)⟩, L.own, L.map.keep kp2 (fun e => L.map.noChan hsd1 e), L.x.keep kp2 (nc L.x.ty)⟩
end
end Go.Proofs.Ythaddgfbohmfoaa
/-
  GateRounds: a round up to the send. Conditions: none.
-/
set_option maxRecDepth 100000
set_option linter.unusedVariables false
set_option linter.unusedSimpArgs false
namespace Go.Proofs.Ythaddgfbohmfoaa
open Go.Proofs.Ythaddgfbohmfoaa.SX Go.Conc

section
variable {D : Dat} {W0 : World} {cs : List Frame} {th : Nat → Thr} {Inb : Nat → Option Tok.Seat} {c : Nat → Nat} {g : List Nat} {Y : Lay} {N : Nat}

/-- Who goes next, of those that are ready: the first one behind the last one, or the first. -/
def Nxt (l : List Nat) (la : Int) (j : Nat) : Prop := (∃ q : Nat, l[q]? = some j ∧ la < j ∧ ∀ (p x : Nat), p < q → l[p]? = some x → (x : Int) ≤ la) ∨ ((∀ (p x : Nat), l[p]? = some x → (x : Int) ≤ la) ∧ l[0]? = some j)

theorem sched_loop {w0 : World} {LB lc : Nat} (M : Mem D th Inb c g Y w0) : ∀ (d q : Nat) {Q : Nat} {m : Machine} {T : Trace} {w : World} {st s37 : Nat → Value} {fr f37 : Frame}, q + d = Q → Q ≤ (rdy D c D.n).length → (∀ p x, p < Q → (rdy D c D.n)[p]? = some x → (x : Int) ≤ las g) → SchAt D W0 cs th Inb c g Y N w0 q m T w st s37 fr f37 LB lc →
    Gets Try.prog m T fun m' T' => ∃ w' st' s37' fr' f37', SchAt D W0 cs th Inb c g Y N w0 Q m' T' w' st' s37' fr' f37' LB lc := by
  intro d
  induction d with
  | zero =>
    intro q Q m T w st s37 fr f37 h hQ hl A
    obtain rfl : q = Q := by omega
    exact Gets.refl ⟨_, _, _, _, _, A⟩
  | succ d ih =>
    intro q Q m T w st s37 fr f37 h hQ hl A
    have hq : (rdy D c D.n)[q]? = some ((rdy D c D.n)[q]'(by omega)) := List.getElem?_eq_getElem (by omega)
    refine (sched_step M hq (hl q _ (by omega) hq) A).trans fun m1 T1 hd => ?_
    obtain ⟨w', st', s37', fr', f37', A'⟩ := hd
    exact ih (q + 1) (by omega) hQ hl A'

theorem round_send {w0 : World} {m : Machine} {T : Trace} {st : Nat → Value} {fr : Frame} {j : Nat} (M : Mem D th Inb c g Y w0) (hn : 0 < D.n) (A : SAt Try.prog D.base W0 Inb 0 N m T (G fr cs) w0) (hf : ∀ i t LB lc ll xs, FrRel Try.prog (ablE D i t Y LB lc ll xs) (rHd st) fr) (hr : noneYet (rdy D c D.n) = false) (hj : Nxt (rdy D c D.n) (las g) j) :
    Gets Try.prog m T fun m' T' => ∃ w' s63 s37' f63 f37' Y', AtSend D W0 cs th Inb g Y N w0 j m' T' w' s63 s37' f63 f37' Y' := by
  have t0 : Thr := ⟨0, 0, 0, 0, 0, 0⟩
  refine (walkP (cs := cs) (frs := []) A (own := fun b => w0.heap.size ≤ b) A.new (fun n hn => hn) (r1 st) (r1Low st) r1O (hf 0 t0 0 0 0 []) trivial (fun p hp => by cases hp) (fun p hp => by
    obtain rfl := List.mem_singleton.1 hp
    refine ⟨Nat.not_le.2 M.run.lt, M.run.cell ?_⟩
    show some (hdV D.n Y.TA Y.cT) = _
    rw [hdV_pos hn]
    rfl) (fun p hp => by cases hp) (fun p hp => by cases hp) List.nodup_nil (fun p hp => by cases hp)).trans fun m1 T1 hd => ?_
  obtain ⟨w1, ρ', hh, a1', cl, fr', frs', C⟩ := hd
  obtain ⟨a37, rfl, e37⟩ := map_one C.cls
  obtain ⟨g37, rfl, r37⟩ := frs_one C.frs
  have n37 : a37.fn = 37 := congrArg Seen.fn e37
  rw [n37] at e37
  obtain ⟨q37, t37⟩ := FrRel.toldF r37 (lv := rL) e37 (.inl rfl)
  obtain ⟨s1, t1⟩ := FrRel.toldF C.fr (lv := abL true (v 5)) C.cur (.inl rfl)
  have x1 : ρ'.i 1 = D.n := C.agree.i 1 (by decide)
  have x22 : ρ'.i 22 = Y.cT := C.agree.i 22 (by decide)
  have y10 : ρ'.b 10 = D.R := C.agree.b 10 (by decide)
  have y20 : ρ'.b 20 = Y.TA := C.agree.b 20 (by decide)
  have y30 : ρ'.b 30 = D.s1 := C.agree.b 30 (by decide)
  have y31 : ρ'.b 31 = D.s2 := C.agree.b 31 (by decide)
  have B0 : AbAt D W0 cs th Inb c Y N w0 0 m1 T1 w1 s1 q37 fr' g37 0 0 := by
    refine ⟨C.at', C.keeps, fun t xs => t1 _ ?_, fun i t LB lc ll xs => t37 _ ?_, fun h => by cases h⟩
    · simp only [abL, abl, nilA, slc, List.map_cons, List.map_nil, AV.evs, i64, v, AV.ev, Option.map_some, Option.map_none, AA.ev, BR.ev, IE.ev, BE.ev, x1, x22, y20]
      rfl
    · simp only [rL, sched, List.map_cons, List.map_nil, AV.evs, ptr0, i64, AV.ev, Option.map_some, AA.ev, BR.ev, IE.ev, y10, y30, y31]
      rfl
  refine (able_loop M A.size D.n 0 (by omega) B0).trans fun m2 T2 hd => ?_
  obtain ⟨w2, st2, s37a, fr2, f37a, LB, lc, B⟩ := hd
  refine (sched_in M hr B).trans fun m3 T3 hd => ?_
  obtain ⟨w3, st3, s37b, fr3, f37b, S0⟩ := hd
  rcases hj with ⟨q, hq, hgt, hle⟩ | ⟨hle, h0⟩
  · have hql := (List.getElem?_eq_some_iff.1 hq).1
    refine (sched_loop M q 0 (by omega) (by omega) (fun p x hp hx => hle p x hp hx) S0).trans fun m4 T4 hd => ?_
    obtain ⟨w4, st4, s37c, fr4, f37c, S⟩ := hd
    exact sched_go (gt := true) M A.size ⟨hq, hgt⟩ S
  · refine (sched_loop M (rdy D c D.n).length 0 (by omega) (Nat.le_refl _) (fun p x hp hx => hle p x hx) S0).trans fun m4 T4 hd => ?_
    obtain ⟨w4, st4, s37c, fr4, f37c, S⟩ := hd
    exact sched_go (gt := false) M A.size ⟨rfl, h0⟩ S
end
end Go.Proofs.Ythaddgfbohmfoaa
/-
  GateRounds: a round's send: the one that goes holds. Conditions: none.
-/
set_option maxRecDepth 100000
set_option linter.unusedVariables false
set_option linter.unusedSimpArgs false
namespace Go.Proofs.Ythaddgfbohmfoaa
open Go.Proofs.Ythaddgfbohmfoaa.SX Go.Conc

section
variable {D : Dat} {W0 : World} {cs : List Frame} {th : Nat → Thr} {Inb : Nat → Option Tok.Seat} {c : Nat → Nat} {g : List Nat} {Y : Lay} {N : Nat}

/-- Main's seat in a round. -/
noncomputable def mainS (D : Dat) (cs : List Frame) (j k : Nat) (t : Thr) (AB B : Nat) (s63 s37 : Nat → Value) : Tok.Seat := mkSeat Try.prog (OLm stSd) (Below 100) (stE D j k t AB) cs B ⟨gsRv s63, [gwW s37], e0⟩ (.dyn 27) (.agg #[]) false

theorem round_give {w0 w : World} {j : Nat} {m : Machine} {T : Trace} {s63 s37 : Nat → Value} {f63 f37 : Frame} {Y' : Lay} {AB : Nat} {s33 s11 s10 s76 : Nat → Value} {Bb : Nat} (M : Mem D th Inb c g Y w0) (hj : j < D.n) (hs : Inb (D.N0 + j) = some (stSeat D j (c j) (th j) AB s33 s11 s10 s76 Bb))
    (S : AtSend D W0 cs th Inb g Y N w0 j m T w s63 s37 f63 f37 Y') (hT : w.cell? ⟨(th j).T, 3, none⟩ = some (.chan (some (th j).sd))) (hsd : ChanAt w (th j).sd) :
    Gets Try.prog m T fun m' T' => ∃ d kk B fr frs, SAt Try.prog D.base W0 (Tok.pass Inb 0 (D.N0 + j) (some (mainS D cs j (c j) (th j) AB B s63 s37))) (D.N0 + j) N m' T' (G fr (frs ++ [baseF Try.prog])) ((w.at d).setChan (th j).wk 0 #[] false (kk + 1) (kk + 1) false) ∧
      w.heap[(th j).wk]? = some (.chan 0 #[] false kk kk false) ∧ FrRel Try.prog (stE D j (c j) (th j) AB) (stBk s33) fr ∧ FrRels Try.prog (stE D j (c j) (th j) AB) (stCl s11 s10 s76) frs := by
  have kn : Known (OLm stSd) (stE D j (c j) (th j) AB) w := ⟨fun p hp => (by cases hp), fun p hp => (by cases hp), fun p hp => by
    obtain rfl := List.mem_singleton.1 hp
    exact hT⟩
  have I := low_ids (gwLow s63 s37)
  refine (SAt.give (c := ⟨gsSd s63, [gwW s37], e0⟩) (cs := cs) (ρ := stE D j (c j) (th j) AB) (U := Below 100) S.at' ⟨f63, [f37], S.f63 _ _, ⟨S.f37 _ _, trivial⟩, rfl⟩ ⟨I.cur, I.callers⟩ (gsSend s63) hs rfl (so := some (mainS D cs j (c j) (th j) AB w.heap.size s63 s37)) (fun s' e => by
      cases e
      refine ⟨mkSeat_fresh kn hsd fun x s e ec => ?_, mkSeat_ok rfl rfl (M.bT j hj).1⟩
      obtain ⟨x', hx', rfl⟩ := M.inb x s e
      rcases (M.thr x' hx').2 with ⟨_, AB2, t1, t2, t3, t4, B2, h2, _⟩ | ⟨_, h2, _⟩
      · rw [h2] at e
        cases e
        exact M.chs x' j hx' hj ec
      · rw [h2] at e; cases e) (fun gg I' Γ' => ⟨_, fun T' _ => mkSeat_sits (bare_snd stSd) (ol_in fun p hp => by
        obtain rfl := List.mem_singleton.1 hp
        exact ⟨⟨(by decide : (14 : Nat) < 100), trivial⟩, (by decide : (27 : Nat) < 100)⟩) (gsWay s63 _) (gsRecv s63 _) I' Γ' kn _⟩)).mono fun m1 T1 hd => ?_
  obtain ⟨g₂, d, kk, A2, ⟨IL, Γ⟩, hch⟩ := hd
  obtain ⟨IL', Γ'⟩ := served_ok Γ IL (v := UN) trivial (stBack s33) e0
  obtain ⟨fr, frs, h1, h2, h3⟩ := Γ'
  have e : Conc.served g₂ (recvd (stSeat D j (c j) (th j) AB s33 s11 s10 s76 Bb).ok (UN.ev (stE D j (c j) (th j) AB)) true) = G fr (frs ++ [baseF Try.prog]) := h3
  rw [e] at A2
  exact ⟨d, kk, w.heap.size, fr, frs, A2, hch, h1, h2⟩
end
end Go.Proofs.Ythaddgfbohmfoaa
/-
  GateRounds: what a turn finds, out of what lies between the rounds. Conditions: none.
-/
set_option maxRecDepth 100000
set_option linter.unusedVariables false
set_option linter.unusedSimpArgs false
namespace Go.Proofs.Ythaddgfbohmfoaa
open Go.Proofs.Ythaddgfbohmfoaa.SX Go.Conc

section
variable {D : Dat} {W0 : World} {cs : List Frame} {th : Nat → Thr} {Inb : Nat → Option Tok.Seat} {c : Nat → Nat} {g : List Nat} {Y : Lay} {N : Nat}

/-- Between a round's head and its turn: the record, both lists, a channel. -/
def sndOwn (D : Dat) (g : List Nat) (Y : Lay) (w0 : World) (wk b : Nat) : Prop := rndOwn D g Y w0 b ∨ b = wk
theorem Mem.notSnd {w0 : World} (M : Mem D th Inb c g Y w0) {j : Nat} (hj : j < D.n) {b : Nat} {e : TypeId} (hb : Ty w0 b e) (h1 : e ≠ 87) (h2 : e ≠ 3) : ¬ sndOwn D g Y w0 (th j).wk b := by
  rintro ((x | rfl | ⟨h0, rfl | rfl⟩) | rfl)
  · exact Nat.not_lt.2 x hb.lt
  · exact hb.ne M.run.ty h1 rfl
  · exact hb.ne (M.went h0).ty h2 rfl
  · obtain ⟨xs, _, hx⟩ := M.ready h0
    exact hb.ne hx.ty h2 rfl
  · exact hb.noChan (M.thr j hj).1.wk rfl
theorem Mem.notSndC {w0 : World} (M : Mem D th Inb c g Y w0) {j : Nat} {b : Nat} (hb : ChanAt w0 b) (hne : b ≠ (th j).wk) : ¬ sndOwn D g Y w0 (th j).wk b := by
  rintro ((x | rfl | ⟨h0, rfl | rfl⟩) | x)
  · exact Nat.not_lt.2 x hb.lt
  · exact M.run.ty.noChan hb rfl
  · exact (M.went h0).ty.noChan hb rfl
  · obtain ⟨xs, _, hx⟩ := M.ready h0
    exact hx.ty.noChan hb rfl
  · exact hne x
theorem Mem.statS {w0 w2 : World} (M : Mem D th Inb c g Y w0) {j : Nat} (hj : j < D.n) (kp : Keeps (sndOwn D g Y w0 (th j).wk) w0 w2) (hbw : D.base ≤ (th j).wk) : StatOk D w2 :=
  M.stat.keep kp (M.notSnd hj M.stat.box.ty (by decide) (by decide)) (fun h => by
    have ho := M.stat.old
    have hl : D.ob < w0.heap.size := cellLt (M.stat.often j hj)
    rcases h with (x | x | ⟨h0, x | x⟩) | x
    · omega
    · have := M.bR; omega
    · have := (M.bL h0).2.1; omega
    · have := (M.bL h0).2.2; omega
    · omega) (fun i hi x => by
    rcases x with (x | x | ⟨h0, x | x⟩) | x
    · exact absurd (M.stat.ci i hi).lt (Nat.not_lt.2 x)
    · exact (M.stat.ci i hi).ty.ne M.run.ty (by decide) x
    · exact (M.ci h0 i hi).1 x
    · exact (M.ci h0 i hi).2 x
    · exact (M.stat.ci i hi).ty.noChan (M.thr j hj).1.wk x) (M.notSnd hj M.stat.bty (by decide) (by decide))

theorem trn_of {w0 w w2 : World} {j AB : Nat} {m : Machine} {T : Trace} {s63 s37 : Nat → Value} {f63 f37 : Frame} {Y' : Lay} (M : Mem D th Inb c g Y w0) (hj : j < D.n) (S : AtSend D W0 cs th Inb g Y N w0 j m T w s63 s37 f63 f37 Y') (kp2 : Keeps (fun b => b = (th j).wk) w w2) (hwk2 : ChanAt w2 (th j).wk) (hbw : D.base ≤ (th j).wk)
    (oAB : AbObj D w0 AB j) (oT : ObjAt w0 (th j).T (thrV D j (th j) (ptrV D.X) (atSV j) false) 78) :
    ∃ xs, Trn D j (c j) (th j) AB g.length Y.LA Y.cL xs (hdV D.n Y.TA Y.cT) (hdV (g.length + 1) Y'.WA Y'.cW) (hdV (g.length + 1) Y'.RA Y'.cR) (hdV D.n Y.FA Y.cF) w2 := by
  have kp : Keeps (sndOwn D g Y w0 (th j).wk) w0 w2 := (S.keeps.mono fun b hb => .inl hb).trans (kp2.mono fun b hb => .inr hb)
  have hTh := (M.thr j hj).1
  have nS : (th j).sd ≠ (th j).wk := fun e => M.chs j j hj hj e.symm
  obtain ⟨xs, hxs⟩ : ∃ xs : List Value, 0 < g.length → xs.length = 8 * g.length ∧ xs[2]? = some (iV 0) ∧ VecAt Try.prog w0 61 Y.LA xs Y.cL := by
    by_cases h : 0 < g.length
    · obtain ⟨xs, h1⟩ := M.log h
      exact ⟨xs, fun _ => h1⟩
    · exact ⟨[], fun h' => absurd h' h⟩
  have sT := M.notSnd hj hTh.T (by decide) (by decide)
  refine ⟨xs, M.statS hj kp hbw, ⟨hTh.c2.keep kp (M.notSnd hj hTh.c2.ty (by decide) (by decide)), hTh.c3.keep kp (M.notSnd hj hTh.c3.ty (by decide) (by decide)), hTh.c5.keep kp (M.notSnd hj hTh.c5.ty (by decide) (by decide)), hwk2, hTh.sd.keep kp (M.notSndC hTh.sd nS), hTh.T.keep kp sT⟩, oT.keep kp sT, oAB.keep kp (M.notSnd hj oAB.ty (by decide) (by decide)), ?_, fun h0 => ?_, ?_, M.x.keep kp (M.notSnd hj M.x.ty (by decide) (by decide)), M.bR, M.bX, M.bM, (M.bT j hj).2, fun h0 => (M.bL h0).1, M.m⟩
  · exact S.run.keep kp2 (fun e => by
      have h1 := hTh.wk.keep S.keeps (fun x => by
        rcases x with x | x | ⟨h0, x | x⟩
        · exact Nat.not_lt.2 x hTh.wk.lt
        · exact M.run.ty.noChan hTh.wk x.symm
        · exact (M.went h0).ty.noChan hTh.wk x.symm
        · obtain ⟨ys, _, hx⟩ := M.ready h0
          exact hx.ty.noChan hTh.wk x.symm)
      exact S.run.ty.noChan h1 e)
  · obtain ⟨h1, h2, h3⟩ := hxs h0
    exact ⟨h1, h2, h3.keep kp (M.notSnd hj h3.ty (by decide) (by decide))⟩
  · have hm : MapAt w0 D.MB (mapV D g.length) := M.map
    refine hm.keep kp (fun x => ?_)
    rcases x with (x | x | ⟨h0, x | x⟩) | x
    · exact Nat.not_lt.2 x hm.lt
    · exact hm.noTy M.run.ty x
    · exact hm.noTy (M.went h0).ty x
    · obtain ⟨ys, _, hx⟩ := M.ready h0
      exact hm.noTy hx.ty x
    · exact hm.noChan hTh.wk x
end
end Go.Proofs.Ythaddgfbohmfoaa
/-
  GateRounds: all that a round may write; what it leaves alone. Conditions: none.
-/
set_option maxRecDepth 100000
set_option linter.unusedVariables false
set_option linter.unusedSimpArgs false
namespace Go.Proofs.Ythaddgfbohmfoaa
open Go.Proofs.Ythaddgfbohmfoaa.SX Go.Conc

section
variable {D : Dat} {W0 : World} {cs : List Frame} {th : Nat → Thr} {Inb : Nat → Option Tok.Seat} {c : Nat → Nat} {g : List Nat} {Y : Lay} {N : Nat}

/-- What a whole round writes. -/
def allOwn (D : Dat) (g : List Nat) (Y : Lay) (w0 : World) (t : Thr) (AB b : Nat) : Prop :=
  w0.heap.size ≤ b ∨ b = D.R ∨ b = D.X ∨ b = D.MB ∨ b = t.T ∨ b = AB ∨ b = t.wk ∨ b = t.sd ∨ (0 < g.length ∧ (b = Y.WA ∨ b = Y.RA ∨ b = Y.LA))
theorem Mem.notAll {w0 : World} (M : Mem D th Inb c g Y w0) {j AB : Nat} (hj : j < D.n) (oAB : AbObj D w0 AB j) {b : Nat} {e : TypeId} (hb : Ty w0 b e) (h1 : e ≠ 87) (h2 : e ≠ 3) (h3 : e ≠ 28) (h4 : e ≠ 78) (h5 : e ≠ 61) : ¬ allOwn D g Y w0 (th j) AB b := by
  rintro (x | rfl | rfl | rfl | rfl | rfl | rfl | rfl | ⟨h0, rfl | rfl | rfl⟩)
  · exact Nat.not_lt.2 x hb.lt
  · exact hb.ne M.run.ty h1 rfl
  · exact hb.ne M.x.ty h3 rfl
  · exact M.map.noTy hb rfl
  · exact hb.ne (M.thr j hj).1.T h4 rfl
  · exact hb.ne oAB.ty h5 rfl
  · exact hb.noChan (M.thr j hj).1.wk rfl
  · exact hb.noChan (M.thr j hj).1.sd rfl
  · exact hb.ne (M.went h0).ty h2 rfl
  · obtain ⟨xs, _, hx⟩ := M.ready h0
    exact hb.ne hx.ty h2 rfl
  · obtain ⟨xs, _, _, hx⟩ := M.log h0
    exact hb.ne hx.ty h5 rfl
theorem thr_obj {w : World} {i k : Nat} {t : Thr} {so : Option Tok.Seat} (h : Now D w i k t so) : ∃ v a e, ObjAt w t.T (thrV D i t v a e) 78 := by
  rcases h with ⟨_, AB, s33, s11, s10, s76, B, _, _, oT⟩ | ⟨_, _, v, a, _, oT⟩
  · exact ⟨_, _, _, oT⟩
  · exact ⟨_, _, _, oT⟩
theorem Mem.T_ne {w0 : World} (M : Mem D th Inb c g Y w0) {x j : Nat} (hx : x < D.n) (hj : j < D.n) (hne : x ≠ j) : (th x).T ≠ (th j).T := fun e => by
  obtain ⟨v, a, b, o⟩ := thr_obj (M.thr x hx).2
  obtain ⟨v', a', b', o'⟩ := thr_obj (M.thr j hj).2
  have c1 : w0.cell? ⟨(th x).T, 1, none⟩ = some (iV x) := o.cell rfl
  have c2 : w0.cell? ⟨(th j).T, 1, none⟩ = some (iV j) := o'.cell rfl
  rw [e, c2] at c1
  have h := Option.some.inj c1
  have h2 : (j : Int) = (x : Int) := by
    simpa [iV] using h
  omega
theorem Mem.statA {w0 w2 : World} (M : Mem D th Inb c g Y w0) {j AB : Nat} (hj : j < D.n) (oAB : AbObj D w0 AB j) (kp : Keeps (allOwn D g Y w0 (th j) AB) w0 w2) (hbw : D.base ≤ (th j).wk) : StatOk D w2 :=
  M.stat.keep kp (M.notAll hj oAB M.stat.box.ty (by decide) (by decide) (by decide) (by decide) (by decide)) (fun h => by
    have ho := M.stat.old
    have hl : D.ob < w0.heap.size := cellLt (M.stat.often j hj)
    have := M.bR
    have := M.bX
    have := M.bM
    have := M.bT j hj
    have := oAB.ge
    rcases h with x | x | x | x | x | x | x | x | ⟨h0, x | x | x⟩
    all_goals first | omega | (have := M.bL h0; omega)) (fun i hi x => by
    have hc := (M.stat.ci i hi)
    rcases x with x | x | x | x | x | x | x | x | ⟨h0, x | x | x⟩
    · exact absurd hc.lt (Nat.not_lt.2 x)
    · exact hc.ty.ne M.run.ty (by decide) x
    · exact hc.ty.ne M.x.ty (by decide) x
    · exact M.map.noTy hc.ty x.symm
    · exact hc.ty.ne (M.thr j hj).1.T (by decide) x
    · exact hc.ty.ne oAB.ty (by decide) x
    · exact hc.ty.noChan (M.thr j hj).1.wk x
    · exact hc.ty.noChan (M.thr j hj).1.sd x
    · exact (M.ci h0 i hi).1 x
    · exact (M.ci h0 i hi).2 x
    · obtain ⟨xs, _, _, hx⟩ := M.log h0
      exact hc.ty.ne hx.ty (by decide) x) (M.notAll hj oAB M.stat.bty (by decide) (by decide) (by decide) (by decide) (by decide))

/-- The others stay where they are. -/
theorem Mem.thrA {w0 w2 : World} (M : Mem D th Inb c g Y w0) {j AB : Nat} (hj : j < D.n) (oAB : AbObj D w0 AB j) (kp : Keeps (allOwn D g Y w0 (th j) AB) w0 w2) (hch : ∀ b, ChanAt w0 b → ChanAt w2 b) {x : Nat} (hx : x < D.n) (hne : x ≠ j) : ThrOk D w2 x (th x) ∧ Now D w2 x (c x) (th x) (Inb (D.N0 + x)) := by
  obtain ⟨h, hN⟩ := M.thr x hx
  have nT : ¬ allOwn D g Y w0 (th j) AB (th x).T := by
    rintro (y | y | y | y | y | y | y | y | ⟨h0, y | y | y⟩)
    · exact Nat.not_lt.2 y h.T.lt
    · exact h.T.ne M.run.ty (by decide) y
    · exact h.T.ne M.x.ty (by decide) y
    · exact M.map.noTy h.T y.symm
    · exact M.T_ne hx hj hne y
    · exact h.T.ne oAB.ty (by decide) y
    · exact h.T.noChan (M.thr j hj).1.wk y
    · exact h.T.noChan (M.thr j hj).1.sd y
    · exact h.T.ne (M.went h0).ty (by decide) y
    · obtain ⟨xs, _, hx⟩ := M.ready h0
      exact h.T.ne hx.ty (by decide) y
    · obtain ⟨xs, _, _, hx⟩ := M.log h0
      exact h.T.ne hx.ty (by decide) y
  refine ⟨⟨h.c2.keep kp (M.notAll hj oAB h.c2.ty (by decide) (by decide) (by decide) (by decide) (by decide)), h.c3.keep kp (M.notAll hj oAB h.c3.ty (by decide) (by decide) (by decide) (by decide) (by decide)), h.c5.keep kp (M.notAll hj oAB h.c5.ty (by decide) (by decide) (by decide) (by decide) (by decide)), hch _ h.wk, hch _ h.sd, h.T.keep kp nT⟩, ?_⟩
  rcases hN with ⟨hk, AB2, s33, s11, s10, s76, Bb, hs, o2, oT⟩ | ⟨hk, hs, vv, a, ha, oT⟩
  · refine .inl ⟨hk, AB2, s33, s11, s10, s76, Bb, hs, o2.keep kp ?_, oT.keep kp nT⟩
    rintro (y | y | y | y | y | y | y | y | ⟨h0, y | y | y⟩)
    · exact Nat.not_lt.2 y o2.lt
    · exact o2.ty.ne M.run.ty (by decide) y
    · exact o2.ty.ne M.x.ty (by decide) y
    · exact M.map.noTy o2.ty y.symm
    · exact o2.ty.ne (M.thr j hj).1.T (by decide) y
    · have c1 : w0.cell? ⟨AB2, 0, none⟩ = some (iV x) := o2.obj.cell rfl
      have c2 : w0.cell? ⟨AB, 0, none⟩ = some (iV j) := oAB.obj.cell rfl
      rw [y, c2] at c1
      have h2 : (j : Int) = (x : Int) := by
        have := Option.some.inj c1
        simpa [iV] using this
      omega
    · exact o2.ty.noChan (M.thr j hj).1.wk y
    · exact o2.ty.noChan (M.thr j hj).1.sd y
    · exact o2.ty.ne (M.went h0).ty (by decide) y
    · obtain ⟨xs, _, hx⟩ := M.ready h0
      exact o2.ty.ne hx.ty (by decide) y
    · obtain ⟨xs, _, l2, hx⟩ := M.log h0
      have c1 := hx.arr 2 _ l2
      have c2 : w0.cell? ⟨AB2, 2, none⟩ = some (iV (-1)) := o2.obj.cell rfl
      rw [Nat.zero_add, ← y, c2] at c1
      cases c1
  · exact .inr ⟨hk, hs, vv, a, ha, oT.keep kp nT⟩
end
end Go.Proofs.Ythaddgfbohmfoaa
/-
  GateRounds: a round, up to the end of its turn. Conditions: none.
-/
set_option maxRecDepth 100000
set_option linter.unusedVariables false
set_option linter.unusedSimpArgs false
namespace Go.Proofs.Ythaddgfbohmfoaa
open Go.Proofs.Ythaddgfbohmfoaa.SX Go.Conc

section
variable {D : Dat} {W0 : World} {cs : List Frame} {th : Nat → Thr} {Inb : Nat → Option Tok.Seat} {c : Nat → Nat} {g : List Nat} {Y : Lay} {N : Nat}

theorem round_turn {w0 w : World} {j : Nat} {m : Machine} {T : Trace} {s63 s37 : Nat → Value} {f63 f37 : Frame} {Y' : Lay} {AB : Nat} {s33 s11 s10 s76 : Nat → Value} {Bb : Nat} {a0 : Goroutine} {m0 : Machine} {T0 : Trace} (M : Mem D th Inb c g Y w0) (A0 : SAt Try.prog D.base W0 Inb 0 N m0 T0 a0 w0) (hj : j < D.n) (hk : c j < D.k j) (hs : Inb (D.N0 + j) = some (stSeat D j (c j) (th j) AB s33 s11 s10 s76 Bb))
    (oAB : AbObj D w0 AB j) (oT : ObjAt w0 (th j).T (thrV D j (th j) (ptrV D.X) (atSV j) false) 78) (S : AtSend D W0 cs th Inb g Y N w0 j m T w s63 s37 f63 f37 Y') :
    Gets Try.prog m T fun m' T' => ∃ d kk B w2, w2 = (w.at d).setChan (th j).wk 0 #[] false (kk + 1) (kk + 1) false ∧ w.heap[(th j).wk]? = some (.chan 0 #[] false kk kk false) ∧
      TurnEnd D W0 (Tok.pass Inb 0 (D.N0 + j) (some (mainS D cs j (c j) (th j) AB B s63 s37))) (D.N0 + j) N w2 j (c j) (th j) AB g.length Y.LA (hdV D.n Y.TA Y.cT) (hdV (g.length + 1) Y'.WA Y'.cW) (hdV (g.length + 1) Y'.RA Y'.cR) (hdV D.n Y.FA Y.cF) (mainS D cs j (c j) (th j) AB B s63 s37) m' T' := by
  have hTh := (M.thr j hj).1
  have n0 := M.n0
  have nr : ∀ {b : Nat} {e : TypeId}, Ty w0 b e → e ≠ 87 → e ≠ 3 → ¬ rndOwn D g Y w0 b := fun hb h1 h2 x => M.notSnd hj hb h1 h2 (.inl x)
  have nrC : ∀ {b : Nat}, ChanAt w0 b → ¬ rndOwn D g Y w0 b := fun hb x => by
    rcases x with x | x | ⟨h0, x | x⟩
    · exact Nat.not_lt.2 x hb.lt
    · exact M.run.ty.noChan hb x.symm
    · exact (M.went h0).ty.noChan hb x.symm
    · obtain ⟨ys, _, hx⟩ := M.ready h0
      exact hx.ty.noChan hb x.symm
  have hbw : D.base ≤ (th j).wk := (A0.ok _ _ hs).ge
  refine (round_give M hj hs S ((oT.keep S.keeps (nr hTh.T (by decide) (by decide))).cell rfl) (hTh.sd.keep S.keeps (nrC hTh.sd))).trans fun m1 T1 hd => ?_
  obtain ⟨d, kk, B, fr, frs, A2, hch, h1, h2⟩ := hd
  have kp2 := keeps_set w d (th j).wk (kk + 1)
  obtain ⟨xs, Tn⟩ := trn_of M hj S kp2 (chan_set hch) hbw oAB oT
  have kp : Keeps (sndOwn D g Y w0 (th j).wk) w0 ((w.at d).setChan (th j).wk 0 #[] false (kk + 1) (kk + 1) false) := (S.keeps.mono fun b hb => .inl hb).trans (kp2.mono fun b hb => .inr hb)
  have inP : ∀ {x : Nat} {s : Tok.Seat}, Tok.pass Inb 0 (D.N0 + j) (some (mainS D cs j (c j) (th j) AB B s63 s37)) x = some s → (x = 0 ∧ s = mainS D cs j (c j) (th j) AB B s63 s37) ∨ (x ≠ D.N0 + j ∧ Inb x = some s) := fun {x s} e => by
    by_cases hN : x = D.N0 + j
    · rw [hN, Tok.pass_j] at e; cases e
    · by_cases h0 : x = 0
      · subst h0
        rw [Tok.pass_h Inb (by omega) _] at e
        exact .inl ⟨rfl, (Option.some.inj e).symm⟩
      · rw [Tok.pass_ne _ _ hN h0] at e
        exact .inr ⟨hN, e⟩
  refine (turn hj hk A2 h1 h2 Tn (fun b n ⟨x, s, e, hl⟩ => ?_) (tM := mainS D cs j (c j) (th j) AB B s63 s37) (Tok.pass_h Inb (by omega) _) rfl (by omega) (fun x s e ec => ?_) hbw).mono fun m2 T2 hd => ⟨d, kk, B, _, rfl, hch, hd⟩
  · rcases inP e with ⟨rfl, rfl⟩ | ⟨hN, e'⟩
    · obtain ⟨p, hp, e2⟩ := hl
      obtain rfl := List.mem_singleton.1 hp
      have e3 : (⟨b, n, none⟩ : Addr) = ⟨(th j).T, 3, none⟩ := Loc.cell.inj e2
      have hb : b = (th j).T := congrArg Addr.block e3
      subst hb
      exact ⟨Tn.th.T, fun _ => congrArg Addr.off e3⟩
    · obtain ⟨x', hx', rfl⟩ := M.inb x s e'
      have hne : x' ≠ j := fun h => hN (by rw [h])
      rcases (M.thr x' hx').2 with ⟨_, AB2, t1, t2, t3, t4, B2, h2, _⟩ | ⟨_, h2, _⟩
      · rw [h2] at e'
        cases e'
        have e2 : (⟨b, n, none⟩ : Addr) = ⟨(th x').T, 2, none⟩ := Loc.cell.inj (stSeat_still.1 hl)
        have hb : b = (th x').T := congrArg Addr.block e2
        subst hb
        exact ⟨(M.thr x' hx').1.T.keep kp (M.notSnd hj (M.thr x' hx').1.T (by decide) (by decide)), fun h => absurd h (M.T_ne hx' hj hne)⟩
      · rw [h2] at e'; cases e'
  · rcases inP e with ⟨rfl, rfl⟩ | ⟨hN, e'⟩
    · exact M.chs j j hj hj ec.symm
    · exact hN (A0.inj e' hs ec)
end
end Go.Proofs.Ythaddgfbohmfoaa
/-
  GateRounds: a whole round: one of those that are ready has gone once more. Conditions: none.
-/
set_option maxRecDepth 100000
set_option linter.unusedVariables false
set_option linter.unusedSimpArgs false
namespace Go.Proofs.Ythaddgfbohmfoaa
open Go.Proofs.Ythaddgfbohmfoaa.SX Go.Conc
open Go.ConcN (upd upd_ne upd_same)

section
variable {D : Dat} {W0 : World} {cs : List Frame} {th : Nat → Thr} {Inb : Nat → Option Tok.Seat} {c : Nat → Nat} {g : List Nat} {Y : Lay} {N : Nat}

/-- At the rounds' head. -/
def HdFr (D : Dat) (Y : Lay) (st : Nat → Value) (fr : Frame) : Prop := ∀ i t LB lc ll xs, FrRel Try.prog (ablE D i t Y LB lc ll xs) (rHd st) fr

theorem hdFr_any {D : Dat} {Y Y' : Lay} {st : Nat → Value} {fr : Frame} (h : HdFr D Y st fr) : HdFr D Y' st fr := fun i t LB lc ll xs => (h i t LB lc ll xs).retell rfl rfl

theorem Mem.ge {w0 : World} (M : Mem D th Inb c g Y w0) (h0 : D.base ≤ w0.heap.size) {j AB : Nat} (hj : j < D.n) (oAB : AbObj D w0 AB j) (hbw : D.base ≤ (th j).wk) {b : Nat} (h : allOwn D g Y w0 (th j) AB b) : D.base ≤ b := by
  have := M.bR
  have := M.bX
  have := M.bM
  have := M.bT j hj
  have := oAB.ge
  rcases h with x | x | x | x | x | x | x | x | ⟨h1, x | x | x⟩
  all_goals first | omega | (have := M.bL h1; omega)

theorem round_all {w0 : World} {m : Machine} {T : Trace} {st : Nat → Value} {fr : Frame} {j : Nat} (M : Mem D th Inb c g Y w0) (hn : 0 < D.n) (hm : g.length + 1 ≤ 1300) (A : SAt Try.prog D.base W0 Inb 0 N m T (G fr cs) w0) (hf : HdFr D Y st fr) (hr : noneYet (rdy D c D.n) = false) (hj : Nxt (rdy D c D.n) (las g) j) :
    Gets Try.prog m T fun m' T' => ∃ Inb' Y' w' fr' st', SAt Try.prog D.base W0 Inb' 0 N m' T' (G fr' cs) w' ∧ HdFr D Y' st' fr' ∧ Mem D th Inb' (upd c j (c j + 1)) (g ++ [j]) Y' w' ∧ ∀ b cs, ObjAt w0 b cs 39 → ObjAt w' b cs 39 := by
  have n0 := M.n0
  have hjm : j ∈ rdy D c D.n := by
    rcases hj with ⟨q, hq, _⟩ | ⟨_, hq⟩
    · exact List.mem_of_getElem? hq
    · exact List.mem_of_getElem? hq
  have hjn : j < D.n ∧ c j < D.k j := by simpa [rdy] using hjm
  obtain ⟨hjn, hck⟩ := hjn
  obtain ⟨hTh, hN⟩ := M.thr j hjn
  obtain ⟨AB, s33, s11, s10, s76, Bb, hs, oAB, oT⟩ : Stands D w0 j (c j) (th j) (Inb (D.N0 + j)) := by
    rcases hN with ⟨_, h⟩ | ⟨h, _⟩
    · exact h
    · omega
  have hbw : D.base ≤ (th j).wk := (A.ok _ _ hs).ge
  refine (round_send M hn A hf hr hj).trans fun m1 T1 hd => ?_
  obtain ⟨w, s63, s37, f63, f37, Y1, S⟩ := hd
  refine (round_turn M A hjn hck hs oAB oT S).trans fun m2 T2 hd => ?_
  obtain ⟨d, kk, B, w2, hw2, hch, so, g₂, w3, LA', cL', xs', A3, hhome, kp3, sd3, T3, now3, run3, log3, oLA, map3, x3⟩ := hd
  have kp2 := keeps_set w d (th j).wk (kk + 1)
  have cw2 := chan_set (d := d) hch
  obtain ⟨xs, Tn⟩ := trn_of M hjn S kp2 cw2 hbw oAB oT
  rw [← hw2] at kp2 cw2 Tn
  clear hw2
  -- main is served
  obtain ⟨IL, Γ⟩ := hhome
  obtain ⟨IL', Γ'⟩ := served_ok Γ IL (v := UN) trivial (gsBack s63) e0
  obtain ⟨fr5, frs5, h5a, h5b, h5c⟩ := Γ'
  have hsv : Conc.served g₂ (recvd (mainS D cs j (c j) (th j) AB B s63 s37).ok (.agg #[]) true) = G fr5 (frs5 ++ cs) := h5c
  rw [hsv] at A3
  -- back to the head
  refine (walkP (cs := cs) A3 (own := fun b => w3.heap.size ≤ b) A3.new (fun n hn => hn) (s3 s63 s37) (s3Low s63 s37) (by kernel_rfl) h5a h5b (fun p hp => by cases hp) (fun p hp => by cases hp) (fun p hp => by cases hp) (fun p hp => by cases hp) List.nodup_nil (fun p hp => by cases hp)).mono fun m4 T4 hd => ?_
  obtain ⟨w4, ρ4, hh4, a4, cl4, fr4, frs4, C4⟩ := hd
  obtain ⟨s4, t4⟩ := FrRel.toldF C4.fr (lv := rL) C4.cur (.inl rfl)
  obtain rfl : cl4 = [] := List.map_eq_nil_iff.1 C4.cls
  obtain rfl : frs4 = [] := by
    have := C4.frs
    cases frs4 with
    | nil => rfl
    | cons a b => exact this.elim
  have o4 : ∀ {b : Nat}, b < w3.heap.size → ¬ w3.heap.size ≤ b := fun h => Nat.not_le.2 h
  -- what the round wrote
  have sz1 := S.keeps.size
  have sz2 := kp2.size
  have sz3 := kp3.size
  have e1 : ∀ b, rndOwn D g Y w0 b → allOwn D g Y w0 (th j) AB b := fun b h => by
    rcases h with x | x | ⟨h0, x | x⟩
    · exact .inl x
    · exact .inr (.inl x)
    · exact .inr (.inr (.inr (.inr (.inr (.inr (.inr (.inr ⟨h0, .inl x⟩)))))))
    · exact .inr (.inr (.inr (.inr (.inr (.inr (.inr (.inr ⟨h0, .inr (.inl x)⟩)))))))
  have e3 : ∀ b, trnOwn D (th j) AB g.length Y.LA w2 b → allOwn D g Y w0 (th j) AB b := fun b h => by
    rcases h with x | x | x | x | x | x | ⟨h0, x⟩
    · exact .inl (by omega)
    · exact .inr (.inr (.inr (.inr (.inr (.inl x)))))
    · exact .inr (.inr (.inr (.inr (.inl x))))
    · exact .inr (.inr (.inl x))
    · exact .inr (.inl x)
    · exact .inr (.inr (.inr (.inl x)))
    · exact .inr (.inr (.inr (.inr (.inr (.inr (.inr (.inr ⟨h0, .inr (.inr x)⟩)))))))
  have kpA : Keeps (allOwn D g Y w0 (th j) AB) w0 w4 := (S.keeps.mono e1).trans ((kp2.mono fun b x => .inr (.inr (.inr (.inr (.inr (.inr (.inl x))))))).trans ((kp3.mono fun b x => x.elim (e3 b) fun x => .inr (.inr (.inr (.inr (.inr (.inr (.inr (.inl x)))))))).trans (C4.keeps.mono fun b x => .inl (by omega))))
  have nrC : ∀ {b : Nat}, ChanAt w0 b → ¬ rndOwn D g Y w0 b := fun hb x => by
    rcases x with x | x | ⟨h0, x | x⟩
    · exact Nat.not_lt.2 x hb.lt
    · exact M.run.ty.noChan hb x.symm
    · exact (M.went h0).ty.noChan hb x.symm
    · obtain ⟨ys, _, hx⟩ := M.ready h0
      exact hx.ty.noChan hb x.symm
  have ntC : ∀ {b : Nat}, ChanAt w2 b → ¬ trnOwn D (th j) AB g.length Y.LA w2 b := fun hb x => by
    rcases x with x | x | x | x | x | x | ⟨h0, x⟩
    · exact Nat.not_lt.2 x hb.lt
    · exact Tn.ab.ty.noChan hb x.symm
    · exact Tn.th.T.noChan hb x.symm
    · exact Tn.x.ty.noChan hb x.symm
    · exact Tn.run.ty.noChan hb x.symm
    · exact Tn.map.noChan hb x.symm
    · exact (Tn.log h0).2.2.ty.noChan hb x.symm
  have hchs : ∀ b, ChanAt w0 b → ChanAt w4 b := fun b hb => by
    have b1 := hb.keep S.keeps (nrC hb)
    have b2 : ChanAt w2 b := by
      by_cases e : b = (th j).wk
      · rw [e]; exact cw2
      · exact b1.keep kp2 e
    have b3 : ChanAt w3 b := by
      by_cases e : b = (th j).sd
      · rw [e]; exact sd3
      · exact b2.keep kp3 fun x => x.elim (ntC b2) e
    exact b3.keep C4.keeps (o4 b3.lt)
  have nsd : ∀ {b : Nat} {e : TypeId}, Ty w2 b e → b ≠ (th j).sd := fun hb => hb.noChan Tn.th.sd
  have nT2 : ∀ {b : Nat} {e : TypeId}, Ty w2 b e → e ≠ 61 → e ≠ 78 → e ≠ 28 → e ≠ 87 → ¬ (trnOwn D (th j) AB g.length Y.LA w2 b ∨ b = (th j).sd) := fun hb h1 h2 h3 h4 x => x.elim (Tn.notOwn hb h1 h2 h3 h4) (nsd hb)
  have hwk1 : ChanAt w (th j).wk := hTh.wk.keep S.keeps (nrC hTh.wk)
  have vW2 := S.went.keep kp2 (fun e => S.went.ty.noChan hwk1 e)
  have vW3 := vW2.keep kp3 (nT2 vW2.ty (by decide) (by decide) (by decide) (by decide))
  obtain ⟨ys, hys, vR1⟩ := S.ready
  have vR2 := vR1.keep kp2 (fun e => vR1.ty.noChan hwk1 e)
  have vR3 := vR2.keep kp3 (nT2 vR2.ty (by decide) (by decide) (by decide) (by decide))
  have hlen : (g ++ [j]).length = g.length + 1 := by simp
  have geA : ∀ {b : Nat}, allOwn D g Y w0 (th j) AB b → D.base ≤ b := M.ge A.size hjn oAB hbw
  have nA : ∀ {b : Nat} {e : TypeId}, Ty w0 b e → e ≠ 87 → e ≠ 3 → e ≠ 28 → e ≠ 78 → e ≠ 61 → ¬ allOwn D g Y w0 (th j) AB b := M.notAll hjn oAB
  have in4 : ∀ {x : Nat}, x ≠ 0 → x ≠ D.N0 + j → Tok.pass (Tok.pass Inb 0 (D.N0 + j) (some (mainS D cs j (c j) (th j) AB B s63 s37))) (D.N0 + j) 0 so x = Inb x := fun {x} h0 hN => by
    rw [Tok.pass_ne _ _ h0 hN, Tok.pass_ne _ _ hN h0]
  have atN : Tok.pass (Tok.pass Inb 0 (D.N0 + j) (some (mainS D cs j (c j) (th j) AB B s63 s37))) (D.N0 + j) 0 so (D.N0 + j) = so := Tok.pass_h _ (by omega) _
  have y10 : ρ4.b 10 = D.R := C4.agree.b 10 (by decide)
  have y30 : ρ4.b 30 = D.s1 := C4.agree.b 30 (by decide)
  have y31 : ρ4.b 31 = D.s2 := C4.agree.b 31 (by decide)
  refine ⟨_, ⟨Y.TA, Y.cT, Y.FA, Y.cF, LA', cL', Y1.WA, Y1.cW, Y1.RA, Y1.cR⟩, w4, fr4, s4, C4.at', fun i t LB lc ll xs => t4 _ ?_,
    ⟨M.statA hjn oAB kpA hbw, ?_, fun h => (M.arrT h).keep kpA (nA (M.arrT h).ty (by decide) (by decide) (by decide) (by decide) (by decide)), fun h => (M.arrF h).keep kpA (nA (M.arrF h).ty (by decide) (by decide) (by decide) (by decide) (by decide)), fun _ => ⟨xs', ?_, log3.2.1, log3.2.2.keep C4.keeps (o4 log3.2.2.lt)⟩, fun _ => vW3.keep C4.keeps (o4 vW3.lt), fun _ => ⟨ys, ?_, vR3.keep C4.keeps (o4 vR3.lt)⟩, ?_, ?_, fun x hx => ?_, fun k s e => ?_,
      M.s1.keep kpA (nA M.s1.ty (by decide) (by decide) (by decide) (by decide) (by decide)), M.s2.keep kpA (nA M.s2.ty (by decide) (by decide) (by decide) (by decide) (by decide)), M.n0, M.bR, M.bX, M.bM, M.bT, M.chs, fun _ => ⟨geA (e3 _ oLA), geA (e1 _ S.oW), geA (e1 _ S.oR)⟩, fun _ => S.wr, fun _ x hx => ⟨fun e => ?_, fun e => ?_⟩, ?_⟩, fun b cs hb => hb.keep kpA (nA hb.ty (by decide) (by decide) (by decide) (by decide) (by decide))⟩
  · simp only [rL, sched, List.map_cons, List.map_nil, AV.evs, ptr0, i64, AV.ev, Option.map_some, AA.ev, BR.ev, IE.ev, y10, y30, y31]
    rfl
  · rw [hlen]; exact run3.keep C4.keeps (o4 run3.lt)
  · rw [hlen]; exact log3.1
  · rw [hlen]; exact hys
  · rw [hlen]; exact map3.keep C4.keeps (o4 map3.lt)
  · rw [hlen]; exact x3.keep C4.keeps (o4 x3.lt)
  · by_cases hxj : x = j
    · subst hxj
      rw [upd_same, atN]
      refine ⟨⟨hTh.c2.keep kpA (nA hTh.c2.ty (by decide) (by decide) (by decide) (by decide) (by decide)), hTh.c3.keep kpA (nA hTh.c3.ty (by decide) (by decide) (by decide) (by decide) (by decide)), hTh.c5.keep kpA (nA hTh.c5.ty (by decide) (by decide) (by decide) (by decide) (by decide)), hchs _ hTh.wk, hchs _ hTh.sd, T3.keep C4.keeps (o4 T3.lt)⟩, ?_⟩
      rcases now3 with ⟨hk, AB2, t1, t2, t3, t4, B2, hs2, o2, oT2⟩ | ⟨hk, hs2, vv, a, ha, oT2⟩
      · exact .inl ⟨hk, AB2, t1, t2, t3, t4, B2, hs2, o2.keep C4.keeps (o4 o2.lt), oT2.keep C4.keeps (o4 oT2.lt)⟩
      · exact .inr ⟨hk, hs2, vv, a, ha, oT2.keep C4.keeps (o4 oT2.lt)⟩
    · rw [upd_ne c _ hxj, in4 (by omega) (by omega)]
      exact M.thrA hjn oAB kpA hchs hx hxj
  · by_cases hN : k = D.N0 + j
    · exact ⟨j, hjn, hN⟩
    · by_cases h0 : k = 0
      · rw [h0, Tok.pass_j] at e; cases e
      · rw [in4 h0 hN] at e
        exact M.inb k s e
  · have hc := M.stat.ci x hx
    rcases S.oW with y | y | ⟨h0, y | y⟩
    · have := hc.lt
      have : D.ci x = Y1.WA := e
      omega
    · exact hc.ty.ne M.run.ty (by decide) (e.trans y)
    · exact (M.ci h0 x hx).1 (e.trans y)
    · exact (M.ci h0 x hx).2 (e.trans y)
  · have hc := M.stat.ci x hx
    rcases S.oR with y | y | ⟨h0, y | y⟩
    · have := hc.lt
      have : D.ci x = Y1.RA := e
      omega
    · exact hc.ty.ne M.run.ty (by decide) (e.trans y)
    · exact (M.ci h0 x hx).1 (e.trans y)
    · exact (M.ci h0 x hx).2 (e.trans y)
  · rw [hlen]; exact hm
end
end Go.Proofs.Ythaddgfbohmfoaa

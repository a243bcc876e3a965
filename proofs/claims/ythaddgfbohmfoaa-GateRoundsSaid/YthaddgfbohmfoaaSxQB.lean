/-
  GateRounds: a body's first way: it stands at its first addition, or it has ended. Conditions: none.
-/
import Derived.Test.YthaddgfbohmfoaaSxQA
set_option maxRecDepth 100000
set_option linter.unusedVariables false
set_option linter.unusedSimpArgs false
namespace Go.Proofs.Ythaddgfbohmfoaa
open Go.Proofs.Ythaddgfbohmfoaa.SX Go.Conc

/-- A meeting changes a channel's counts alone. -/
theorem keeps_set (w : World) (d c k : Nat) : Keeps (fun b => b = c) w ((w.at d).setChan c 0 #[] false k k false) :=
  ⟨fun n hn => heap_setChan_ne (w.at d) _ _ _ _ _ _ (fun e => hn e.symm), by rw [Go.Proofs.Ythaddgfbohmfoaa.SX.size_setChan]; exact Nat.le_refl _, rfl, rfl, rfl⟩
theorem chan_set {w : World} {d c k : Nat} (h : w.heap[c]? = some (.chan 0 #[] false k k false)) : ChanAt ((w.at d).setChan c 0 #[] false (k + 1) (k + 1) false) c :=
  ⟨k + 1, heap_setChan_self (w.at d) (c := c) h _ _ _ _ _ _⟩
theorem ol_in {l : List (AA × AV)} {U : Nat → Prop} (h : ∀ p ∈ l, p.1.In U ∧ p.2.In U) : (OLm l).In U := ⟨fun p hp => (by cases hp), fun p hp => (by cases hp), h⟩

section
variable {D : Dat} {W0 : World} {Inb : Nat → Option Tok.Seat} {h N : Nat} {m : Machine} {T : Trace} {w : World} {i : Nat} {t : Thr} {fr : Frame}

/-- What the child's piece comes to. -/
def FirstEnd (D : Dat) (W0 : World) (Inb : Nat → Option Tok.Seat) (h N : Nat) (w : World) (i k : Nat) (t : Thr) (tM : Tok.Seat) (m' : Machine) (T' : Trace) : Prop :=
  ∃ so g₂ w', SAt Try.prog D.base W0 (Tok.pass Inb h 0 so) 0 N m' T' (Conc.served g₂ (recvd tM.ok (.agg #[]) true)) w' ∧ tM.home g₂ ∧ Keeps (fun b => w.heap.size ≤ b ∨ b = t.T ∨ b = t.sd) w w' ∧ ChanAt w' t.sd ∧ Ty w' t.T 78 ∧ Now D w' i k t so

theorem child_first (hi : i < D.n) (A : SAt Try.prog D.base W0 Inb h N m T (G fr [baseF Try.prog]) w) (hf : FrRel Try.prog (stE D i 0 t 0) chBk fr) (S : StatOk D w) (Th : ThrOk D w i t) (hR : w.cell? ⟨D.R, 6, none⟩ = some (.bool false)) (hRty : Ty w D.R 87)
    (hT : ObjAt w t.T (thrV D i t (.pointer none) at0V false) 78) (hTb : D.base ≤ t.T) (hst : ∀ n, stillI Inb t.T n → n = 3) {tM : Tok.Seat} (hM : Inb 0 = some tM) (hMc : tM.c = t.sd) (hpos : 0 < h) (hap : ∀ x s, Inb x = some s → s.c ≠ t.wk) (hwb : D.base ≤ t.wk) :
    Gets Try.prog m T (FirstEnd D W0 Inb h N w i 0 t tM) := by
  have hown : ∀ b, (w.heap.size ≤ b ∨ b = t.T) → (SK Try.prog D.base Inb).own b := fun b hb => hb.elim (A.new b) fun e => by
    subst e
    exact ⟨hTb, fun ⟨x, s, e, ec⟩ => Th.T.noChan (A.chan e) ec.symm⟩
  have not_own : ∀ {b : Nat} {e : TypeId}, Ty w b e → e ≠ 78 → ¬ (w.heap.size ≤ b ∨ b = t.T) := fun hb he x => x.elim (fun h => absurd hb.lt (Nat.not_lt.2 h)) fun e => (hb.ne Th.T he) e
  have hm : ∀ p ∈ memC, ¬ (w.heap.size ≤ (p.1.ev (stE D i 0 t 0)).block ∨ (p.1.ev (stE D i 0 t 0)).block = t.T) ∧ w.cell? (p.1.ev (stE D i 0 t 0)) = some (p.2.ev (stE D i 0 t 0)) := fun p hp => by
    simp only [memC, List.mem_cons, List.not_mem_nil, or_false] at hp
    rcases hp with rfl | rfl | rfl | rfl | rfl | rfl | rfl
    · exact ⟨not_own Th.c2.ty (by decide), Th.c2.cell rfl⟩
    · exact ⟨not_own Th.c5.ty (by decide), Th.c5.cell rfl⟩
    · exact ⟨not_own Th.c3.ty (by decide), Th.c3.cell rfl⟩
    · exact ⟨not_own S.box.ty (by decide), S.box.cell rfl⟩
    · exact ⟨not_own (S.ci i hi).ty (by decide), (S.ci i hi).cell rfl⟩
    · refine ⟨fun x => ?_, S.often i hi⟩
      have hlt := cellLt (S.often i hi)
      have ho := S.old
      have x' : w.heap.size ≤ D.ob ∨ D.ob = t.T := x
      have hlt' : D.ob < w.heap.size := hlt
      omega
    · exact ⟨not_own hRty (by decide), hR⟩
  have e8 : (stE D i 0 t 0).i 4 = (D.o i : Nat) := rfl
  have hb : ∀ b, decide (0 < D.k i) = b → ∀ p ∈ bsC b, p.1.ev (stE D i 0 t 0) = p.2 := fun b hk p hp => by
    simp only [bsC, List.mem_cons, List.not_mem_nil, or_false] at hp
    rcases hp with rfl | rfl | rfl
    · show decide ((i : Int) < (((D.n : Nat) : Int).toNat : Int)) = true
      exact decide_eq_true (by omega)
    · show decide ((0 : Int) ≤ (i : Int)) = true
      exact decide_eq_true (by omega)
    · show decide ((0 : Int) < modE.ev (stE D i 0 t 0)) = b
      rw [mod_ev e8 (S.o8 i), ← hk]
      show decide ((0 : Int) < ((D.k i : Nat) : Int)) = decide (0 < D.k i)
      by_cases h0 : 0 < D.k i
      · rw [decide_eq_true h0]; exact decide_eq_true (by omega)
      · rw [decide_eq_false h0]; exact decide_eq_false (by omega)
  have h1 : ∀ p ∈ hpT (.ptr none) at0 ff, ∃ o, w.heap[(stE D i 0 t 0).b p.1]? = some o ∧ p.2.is Try.prog (stE D i 0 t 0) o := fun p hp => by
    obtain rfl := List.mem_singleton.1 hp
    exact ObjAt.isLent (P := Try.prog) (ρ := stE D i 0 t 0) hT
  have h2 : ∀ p ∈ hpT (.ptr none) at0 ff, (w.heap.size ≤ (stE D i 0 t 0).b p.1 ∨ (stE D i 0 t 0).b p.1 = t.T) := fun p hp => by
    obtain rfl := List.mem_singleton.1 hp
    exact .inr rfl
  have h4 : ∀ p ∈ hpT (.ptr none) at0 ff, ∀ n, stillI Inb ((stE D i 0 t 0).b p.1) n → p.2.lentAt Try.prog (stE D i 0 t 0) n := fun p hp n hn => by
    obtain rfl := List.mem_singleton.1 hp
    obtain rfl := hst n hn
    exact lentAt_of rfl
  by_cases hk : 0 < D.k i
  · refine (walkP (cs := [baseF Try.prog]) (frs := []) A hown (fun n hn => .inl hn) c1A c1Low (c1O true) hf trivial (hb true (decide_eq_true hk)) hm h1 h2 (by simp [hpT]) h4).trans fun m1 T1 hd => ?_
    obtain ⟨w1, ρ', hh, a1, cl, fr', frs', C⟩ := hd
    obtain ⟨s33, t33⟩ := FrRel.toldF C.fr (lv := [(0, ptr0 14), (25, chb 27), (26, UN)]) C.cur (.inl rfl)
    obtain ⟨a11, a10, a76, rfl, e11, e10, e76⟩ := map_three C.cls
    obtain ⟨f11, f10, f76, rfl, r11, r10, r76⟩ := frs_three C.frs
    have n11 : a11.fn = 11 := congrArg Seen.fn e11
    have n10 : a10.fn = 10 := congrArg Seen.fn e10
    have n76 : a76.fn = 76 := congrArg Seen.fn e76
    rw [n11] at e11
    rw [n10] at e10
    rw [n76] at e76
    obtain ⟨s11, t11⟩ := FrRel.toldF r11 (lv := [(0, ptr0 14), (1, ptr0 13), (2, .int .i8 (.lit 4)), (3, i64 (.lit 1)), (4, i64 (.lit 0)), (13, ptr0 25)]) e11 (.inl rfl)
    obtain ⟨s10, t10⟩ := FrRel.toldF r10 (lv := [(0, ptr0 14), (1, ptr0 11), (2, ptr0 12), (3, ptr0 13), (5, .int .u8 (v 3))]) e10 (.inl rfl)
    obtain ⟨s76, t76⟩ := FrRel.toldD r76 (lv := []) e76 (.inr rfl)
    have fAB : findB 100 hh.hp = some (.cells atS 61) := by rw [C.hp]; rfl
    have fT : findB 14 hh.hp = some (.lent (thrC (v 2) 14 26 27 (ptr0 13) atS ff) 78 [3]) := by rw [C.hp]; rfl
    have y14 : ρ'.b 14 = t.T := C.agree.b 14 (by decide)
    have y10 : ρ'.b 10 = D.R := C.agree.b 10 (by decide)
    have y11 : ρ'.b 11 = D.OB := C.agree.b 11 (by decide)
    have y12 : ρ'.b 12 = D.ci i := C.agree.b 12 (by decide)
    have y13 : ρ'.b 13 = D.X := C.agree.b 13 (by decide)
    have y16 : ρ'.b 16 = t.c2 := C.agree.b 16 (by decide)
    have y17 : ρ'.b 17 = t.c5 := C.agree.b 17 (by decide)
    have y26 : ρ'.b 26 = t.wk := C.agree.b 26 (by decide)
    have y27 : ρ'.b 27 = t.sd := C.agree.b 27 (by decide)
    have x2 : ρ'.i 2 = i := C.agree.i 2 (by decide)
    have oAB := obj_of_cells C.rel fAB
    have oT := obj_of_lent C.rel fT
    have gAB : D.base ≤ ρ'.b 100 := (hown _ (C.rel.own _ _ fAB rfl)).1
    have eAB : AV.evs ρ' atS = atSV i := by
      simp only [atS, AV.evs, i64, ff, AV.ev, v, IE.ev, BE.ev, x2]
      rfl
    have eT : AV.evs ρ' (thrC (v 2) 14 26 27 (ptr0 13) atS ff) = thrV D i t (ptrV D.X) (atSV i) false := by
      simp only [thrC, atS, chb, ptr0, List.cons_append, List.nil_append, AV.evs, i64, ff, AV.ev, v, Option.map_some, AA.ev, BR.ev, IE.ev, BE.ev, x2, y10, y13, y26, y27]
      rfl
    rw [eAB] at oAB
    rw [eT, y14] at oT
    generalize hAB : ρ'.b 100 = AB at *
    have g33 := t33 (stE D i 0 t AB) (by
      simp only [List.map_cons, List.map_nil, AV.evs, chb, ptr0, UN, AV.ev, Option.map_some, AA.ev, BR.ev, IE.ev, y14, y27]
      rfl)
    have g11 := t11 (stE D i 0 t AB) (by
      simp only [List.map_cons, List.map_nil, spV, AV.evs, chb, ptr0, i64, AV.ev, Option.map_some, AA.ev, BR.ev, IE.ev, y14, y13, hAB]
      rfl)
    have g10 := t10 (stE D i 0 t AB) (by
      simp only [List.map_cons, List.map_nil, cbV, AV.evs, chb, ptr0, i64, AV.ev, Option.map_some, AA.ev, BR.ev, IE.ev, v, y14, y13, y11, y12]
      rfl)
    have g76 := t76 (stE D i 0 t AB) (dfr 16 17) rfl (by
      simp only [dfr, List.map_cons, List.map_nil, AD.ev, ATarget.ev, AV.evs, ptr0, AV.ev, Option.map_some, AA.ev, BR.ev, IE.ev, y16, y17]
      rfl)
    have hlow := low_ids (stLow s33 s11 s10 s76)
    have kn : Known (OLm stWt) (stE D i 0 t AB) w1 := ⟨fun p hp => (by cases hp), fun p hp => (by cases hp), fun p hp => by
      obtain rfl := List.mem_singleton.1 hp
      exact oT.cell rfl⟩
    have nwk : ¬ (w.heap.size ≤ t.wk ∨ t.wk = t.T) := fun x => x.elim (fun h => absurd Th.wk.lt (Nat.not_lt.2 h)) fun e => Th.T.noChan Th.wk e.symm
    have hwk1 : ChanAt w1 t.wk := Th.wk.keep C.keeps nwk
    refine (SAt.give (c := ⟨stSd33 s33, stCl s11 s10 s76, e0⟩) (cs := [baseF Try.prog]) (ρ := stE D i 0 t AB) (U := Below 100) C.at' ⟨fr', [f11, f10, f76], g33, ⟨g11, g10, g76, trivial⟩, rfl⟩ ⟨hlow.cur, hlow.callers⟩ (stSend s33) hM hMc (so := some (stSeat D i 0 t AB s33 s11 s10 s76 w1.heap.size)) (fun s' e => by
        cases e
        exact ⟨mkSeat_fresh kn hwk1 hap, mkSeat_ok rfl rfl hwb⟩) (fun g I' Γ' => ⟨_, fun T' _ => mkSeat_sits (bare_snd stWt) (ol_in fun p hp => by
        obtain rfl := List.mem_singleton.1 hp
        exact ⟨⟨(by decide : (14 : Nat) < 100), trivial⟩, (by decide : (26 : Nat) < 100)⟩) (stWay s33 _) (stRecv s33 _) I' Γ' kn _⟩)).mono fun m2 T2 hd => ?_
    obtain ⟨g₂, d, k, A2, hhome, hch⟩ := hd
    rw [hMc] at hch A2
    have kp2 := keeps_set w1 d t.sd (k + 1)
    have hsd1 : ChanAt w1 t.sd := ⟨k, hch⟩
    have nAB : ¬ (AB = t.sd) := fun e => oAB.ty.noChan hsd1 e
    have nT : ¬ (t.T = t.sd) := fun e => oT.ty.noChan hsd1 e
    exact ⟨_, g₂, _, A2, hhome, (C.keeps.mono fun b hb => hb.elim .inl fun e => .inr (.inl e)).trans (kp2.mono fun b hb => .inr (.inr hb)), chan_set hch, (oT.keep kp2 nT).ty, .inl ⟨hk, AB, s33, s11, s10, s76, _, rfl, ⟨oAB.keep kp2 nAB, gAB⟩, oT.keep kp2 nT⟩⟩
  · refine (walkE (cs := [baseF Try.prog]) (frs := []) A hown (fun n hn => .inl hn) c1B c1Low (c1O false) hf trivial (hb false (decide_eq_false hk)) hm h1 h2 (by simp [hpT]) h4).trans fun m1 T1 hd => ?_
    obtain ⟨a', w1, ρ', U', A1, Ag, kp, I, Γ, Rl⟩ := hd
    have fT : findB 14 c1E.h.hp = some (.lent (thrC (v 2) 14 26 27 (.ptr none) at0 TB) 78 [3]) := by rw [c1Bhp]; rfl
    have y14 : ρ'.b 14 = t.T := Ag.b 14 (by decide)
    have y10 : ρ'.b 10 = D.R := Ag.b 10 (by decide)
    have y26 : ρ'.b 26 = t.wk := Ag.b 26 (by decide)
    have y27 : ρ'.b 27 = t.sd := Ag.b 27 (by decide)
    have x2 : ρ'.i 2 = i := Ag.i 2 (by decide)
    have oT := obj_of_lent Rl fT
    have eT : AV.evs ρ' (thrC (v 2) 14 26 27 (.ptr none) at0 TB) = thrV D i t (.pointer none) at0V true := by
      simp only [thrC, at0, i8z, chb, ptr0, List.cons_append, List.nil_append, AV.evs, i64, ff, TB, AV.ev, v, Option.map_some, Option.map_none, AA.ev, BR.ev, IE.ev, BE.ev, x2, y10, y26, y27]
      rfl
    rw [eT, y14] at oT
    refine (SAt.give (cs := [baseF Try.prog]) A1 Γ I c1Bsend hM (hMc.trans y27.symm) (so := none) (fun s' e => by cases e) (fun g I' Γ' => by
      obtain ⟨mq, hq⟩ := leave_quits (O := OLm []) rfl rfl rfl (bare_snd []) (ol_in fun p hp => by cases hp) c1Bleave I' Γ'
      exact ⟨mq, fun T' hD => ⟨hpos, by rw [hD]; exact hq⟩⟩)).mono fun m2 T2 hd => ?_
    obtain ⟨g₂, d, k, A2, hhome, hch⟩ := hd
    rw [hMc] at hch A2
    have kp2 := keeps_set w1 d t.sd (k + 1)
    have hsd1 : ChanAt w1 t.sd := ⟨k, hch⟩
    have nT : ¬ (t.T = t.sd) := fun e => oT.ty.noChan hsd1 e
    exact ⟨_, g₂, _, A2, hhome, (kp.mono fun b hb => hb.elim .inl fun e => .inr (.inl e)).trans (kp2.mono fun b hb => .inr (.inr hb)), chan_set hch, (oT.keep kp2 nT).ty, .inr ⟨by omega, rfl, _, _, rfl, oT.keep kp2 nT⟩⟩
end
end Go.Proofs.Ythaddgfbohmfoaa
/-
  GateRounds: the run begins its bodies, one by one. Conditions: none.
-/
set_option maxRecDepth 100000
set_option linter.unusedVariables false
set_option linter.unusedSimpArgs false
namespace Go.Proofs.Ythaddgfbohmfoaa
open Go.Proofs.Ythaddgfbohmfoaa.SX Go.Conc
open Go.ConcN (upd upd_ne upd_same)

def nilV : Value := .slice none 0 0
def hdV (i b c : Nat) : Value := match i with
  | 0 => nilV
  | i + 1 => .slice (some ⟨b, 0, none⟩) (i + 1) c
def runV (D : Dat) (ta l w r fa : Value) (s : Bool) : List Value := [ta, .map (some D.MB), l, w, r, fa, .bool s]
def psL (i : Nat) (th : Nat → Thr) : List Value := (List.range i).map fun j => ptrV (th j).T
def fsL (i : Nat) : List Value := (List.range i).map fun _ => .bool false
theorem psL_length (i : Nat) (th : Nat → Thr) : (psL i th).length = i := by simp [psL]
theorem fsL_length (i : Nat) : (fsL i).length = i := by simp [fsL]
theorem psL_succ (i : Nat) (th : Nat → Thr) : psL (i + 1) th = psL i th ++ [ptrV (th i).T] := by simp [psL, List.range_succ]
theorem fsL_succ (i : Nat) : fsL (i + 1) = fsL i ++ [.bool false] := by simp [fsL, List.range_succ]
theorem psL_upd (i : Nat) (th : Nat → Thr) (t : Thr) : psL i (upd th i t) = psL i th := List.map_congr_left fun j hj => by rw [upd_ne th t (by have := List.mem_range.1 hj; omega)]

noncomputable def begE (D : Dat) (i TA cT FA cF : Nat) (ps fs : List Value) : Env := mkE [(1, D.n), (2, i), (22, cT), (23, cF), (29, D.cB)] [(10, D.R), (11, D.OB), (12, D.ci i), (13, D.X), (15, D.MB), (20, TA), (21, FA), (28, D.BA), (30, D.s1), (31, D.s2)] [(40, .agg ps.toArray), (41, .agg fs.toArray)]

/-- So many have been begun. -/
structure BegAt (D : Dat) (W0 : World) (i : Nat) (cs : List Frame) (m : Machine) (T : Trace) (Inb : Nat → Option Tok.Seat) (th : Nat → Thr) (fr : Frame) (st : Nat → Value) (TA cT FA cF : Nat) (w : World) : Prop where
  at' : SAt Try.prog D.base W0 Inb 0 (D.N0 + i) m T (G fr cs) w
  fr : ∀ TA cT FA cF ps fs, FrRel Try.prog (begE D i TA cT FA cF ps fs) (unHd st (v 2)) fr
  stat : StatOk D w
  run : ObjAt w D.R (runV D (hdV i TA cT) nilV nilV nilV (hdV i FA cF) false) 87
  arrT : 0 < i → VecAt Try.prog w 30 TA (psL i th) cT
  arrF : 0 < i → VecAt Try.prog w 4 FA (fsL i) cF
  thr : ∀ j, j < i → ThrOk D w j (th j) ∧ Now D w j 0 (th j) (Inb (D.N0 + j))
  inb : ∀ g s, Inb g = some s → ∃ j, j < i ∧ g = D.N0 + j
  bR : D.base ≤ D.R
  bA : 0 < i → D.base ≤ TA ∧ D.base ≤ FA
  n0 : 1 ≤ D.N0
  c5 : ∀ j, j < i → (th j).c5 ≠ TA
  chs : ∀ x j, x < i → j < i → (th x).wk ≠ (th j).sd
  bS : ∀ j, j < i → D.base ≤ (th j).sd ∧ D.base ≤ (th j).T

/-- Whoever sits looks at threads alone. -/
theorem still_thr {D : Dat} {w : World} {i : Nat} {th : Nat → Thr} {Inb : Nat → Option Tok.Seat} (thr : ∀ j, j < i → ThrOk D w j (th j) ∧ Now D w j 0 (th j) (Inb (D.N0 + j))) (inb : ∀ g s, Inb g = some s → ∃ j, j < i ∧ g = D.N0 + j) {b n : Nat} (h : stillI Inb b n) : ∃ j, j < i ∧ b = (th j).T ∧ n = 2 := by
  obtain ⟨g, s, e, hl⟩ := h
  obtain ⟨j, hj, rfl⟩ := inb g s e
  obtain ⟨_, hN⟩ := thr j hj
  rcases hN with ⟨_, AB, s33, s11, s10, s76, B, hs, _⟩ | ⟨_, hs, _⟩
  · rw [hs] at e
    cases e
    have := stSeat_still.1 hl
    have e2 : (⟨b, n, none⟩ : Addr) = ⟨(th j).T, 2, none⟩ := by simpa using this
    exact ⟨j, hj, congrArg Addr.block e2, congrArg Addr.off e2⟩
  · rw [hs] at e; cases e

section
variable {D : Dat} {W0 : World} {i : Nat} {cs : List Frame} {m : Machine} {T : Trace} {Inb : Nat → Option Tok.Seat} {th : Nat → Thr} {fr : Frame} {st : Nat → Value} {TA cT FA cF : Nat} {w : World}

/-- What it owns there. -/
def begOwn (D : Dat) (i TA FA : Nat) (w : World) (b : Nat) : Prop := w.heap.size ≤ b ∨ b = D.R ∨ (0 < i ∧ (b = TA ∨ b = FA))

theorem BegAt.own (B : BegAt D W0 i cs m T Inb th fr st TA cT FA cF w) : ∀ b, begOwn D i TA FA w b → (SK Try.prog D.base Inb).own b := by
  have nc : ∀ {b : Nat} {e : TypeId}, Ty w b e → ¬ chanOf Inb b := fun hb ⟨g, s, e, ec⟩ => hb.noChan (B.at'.chan e) ec.symm
  rintro b (hb | rfl | ⟨h0, rfl | rfl⟩)
  · exact B.at'.new b hb
  · exact ⟨B.bR, nc B.run.ty⟩
  · exact ⟨(B.bA h0).1, nc (B.arrT h0).ty⟩
  · exact ⟨(B.bA h0).2, nc (B.arrF h0).ty⟩
theorem BegAt.nstill (B : BegAt D W0 i cs m T Inb th fr st TA cT FA cF w) {b : Nat} {e : TypeId} (hb : Ty w b e) (he : e ≠ 78) (n : Nat) : ¬ stillI Inb b n := fun h => by
  obtain ⟨j, hj, rfl, _⟩ := still_thr B.thr B.inb h
  exact hb.ne (B.thr j hj).1.T he rfl
theorem BegAt.notOwn (B : BegAt D W0 i cs m T Inb th fr st TA cT FA cF w) {b : Nat} {e : TypeId} (hb : Ty w b e) (h1 : e ≠ 87) (h2 : e ≠ 30) (h3 : e ≠ 4) : ¬ begOwn D i TA FA w b := by
  rintro (h | rfl | ⟨h0, rfl | rfl⟩)
  · exact Nat.not_lt.2 h hb.lt
  · exact hb.ne B.run.ty h1 rfl
  · exact hb.ne (B.arrT h0).ty h2 rfl
  · exact hb.ne (B.arrF h0).ty h3 rfl
theorem BegAt.notOwnC (B : BegAt D W0 i cs m T Inb th fr st TA cT FA cF w) {b : Nat} (hb : ChanAt w b) : ¬ begOwn D i TA FA w b := by
  rintro (h | rfl | ⟨h0, rfl | rfl⟩)
  · exact Nat.not_lt.2 h hb.lt
  · exact B.run.ty.noChan hb rfl
  · exact (B.arrT h0).ty.noChan hb rfl
  · exact (B.arrF h0).ty.noChan hb rfl

/-- All that was there before, behind a round. -/
theorem BegAt.stat' (B : BegAt D W0 i cs m T Inb th fr st TA cT FA cF w) {w' : World} (kp : Keeps (begOwn D i TA FA w) w w') : StatOk D w' :=
  B.stat.keep kp (B.notOwn B.stat.box.ty (by decide) (by decide) (by decide)) (fun h => by
    rcases h with h | h | ⟨h0, h | h⟩
    · by_cases hn : 0 < D.n
      · have := cellLt (B.stat.often 0 hn)
        dsimp only at this
        omega
      · have := B.stat.old
        have := B.at'.size
        omega
    · have := B.stat.old; have := B.bR; omega
    · have := B.stat.old; have := (B.bA h0).1; omega
    · have := B.stat.old; have := (B.bA h0).2; omega) (fun j hj => B.notOwn (B.stat.ci j hj).ty (by decide) (by decide) (by decide)) (B.notOwn B.stat.bty (by decide) (by decide) (by decide))
theorem BegAt.thr' (B : BegAt D W0 i cs m T Inb th fr st TA cT FA cF w) {w' : World} (kp : Keeps (begOwn D i TA FA w) w w') {j : Nat} (hj : j < i) : ThrOk D w' j (th j) ∧ Now D w' j 0 (th j) (Inb (D.N0 + j)) := by
  obtain ⟨h, hN⟩ := B.thr j hj
  have nT := B.notOwn h.T (by decide) (by decide) (by decide)
  refine ⟨h.keep kp (B.notOwn h.c2.ty (by decide) (by decide) (by decide)) (B.notOwn h.c3.ty (by decide) (by decide) (by decide)) (fun x => ?_) (B.notOwnC h.wk) (B.notOwnC h.sd) (h.T.keep kp nT), ?_⟩
  · rcases x with x | x | ⟨h0, x | x⟩
    · exact absurd h.c5.lt (Nat.not_lt.2 x)
    · exact h.c5.ty.ne B.run.ty (by decide) x
    · exact B.c5 j hj x
    · exact h.c5.ty.ne (B.arrF h0).ty (by decide) x
  · rcases hN with ⟨hk, AB, s33, s11, s10, s76, Bb, hs, oAB, oT⟩ | ⟨hk, hs, vv, a, ha, oT⟩
    · exact .inl ⟨hk, AB, s33, s11, s10, s76, Bb, hs, oAB.keep kp (B.notOwn oAB.ty (by decide) (by decide) (by decide)), oT.keep kp nT⟩
    · exact .inr ⟨hk, hs, vv, a, ha, oT.keep kp nT⟩
end
end Go.Proofs.Ythaddgfbohmfoaa
/-
  GateRounds: begin, up to the go statement: what has come to be. Conditions: none.
-/
set_option maxRecDepth 100000
set_option linter.unusedVariables false
set_option linter.unusedSimpArgs false
namespace Go.Proofs.Ythaddgfbohmfoaa
open Go.Proofs.Ythaddgfbohmfoaa.SX Go.Conc
open Go.ConcN (upd upd_ne upd_same)

/-- Behind begin's own allocations; the thread is not yet begun. -/
structure AftB (D : Dat) (W0 : World) (i : Nat) (cs : List Frame) (m : Machine) (T : Trace) (Inb : Nat → Option Tok.Seat) (th : Nat → Thr) (own : Nat → Prop) (w0 : World) (t : Thr) (f61 f37 : Frame) (s61 s37 : Nat → Value) (TA cT FA cF : Nat) (w : World) : Prop where
  at' : SAt Try.prog D.base W0 Inb 0 (D.N0 + i) m T (G f61 (f37 :: cs)) w
  fr61 : ∀ k AB, FrRel Try.prog (stE D i k t AB) (bgGo s61) f61
  fr37 : ∀ k t' AB, FrRel Try.prog (stE D i k t' AB) (unIn s37) f37
  keeps : Keeps own w0 w
  run : ObjAt w D.R (runV D (hdV (i + 1) TA cT) nilV nilV nilV (hdV (i + 1) FA cF) false) 87
  arrT : VecAt Try.prog w 30 TA (psL i th ++ [ptrV t.T]) cT
  arrF : VecAt Try.prog w 4 FA (fsL (i + 1)) cF
  thr : ThrOk D w i t
  T : ObjAt w t.T (thrV D i t (.pointer none) at0V false) 78
  oT : own t.T
  oc : own t.c2 ∧ own t.c3 ∧ own t.c5 ∧ own t.wk ∧ own t.sd ∧ own TA ∧ own FA
  c5 : t.c5 ≠ TA
  ne : t.wk ≠ t.sd

theorem psize (e : TypeId) (h : e = 30 ∨ e = 4) (inf : TypeInfo) (hi : Try.prog.info? e = some inf) : inf.size = 1 := by
  have e2 : (Try.prog.info? e).map (fun x => x.size) = some 1 := by rcases h with rfl | rfl <;> kernel_rfl
  rw [hi] at e2
  exact Option.some.inj e2

section
variable {D : Dat} {W0 : World} {i : Nat} {cs : List Frame} {m : Machine} {T : Trace} {Inb : Nat → Option Tok.Seat} {th : Nat → Thr} {fr : Frame} {st : Nat → Value} {TA cT FA cF : Nat} {w : World}

theorem beg_b1 (hi : i < D.n) (B : BegAt D W0 i cs m T Inb th fr st TA cT FA cF w) :
    Gets Try.prog m T fun m' T' => ∃ t f61 f37 s61 s37 TA' cT' FA' cF' w', AftB D W0 i cs m' T' Inb th (begOwn D i TA FA w) w t f61 f37 s61 s37 TA' cT' FA' cF' w' := by
  obtain ⟨z, hz⟩ : ∃ z : Bool, z = decide (i = 0) := ⟨_, rfl⟩
  have hn40 := B.stat.n40
  have hf := B.fr TA cT FA cF (psL i th) (fsL i)
  have hb : ∀ p ∈ bsB z, p.1.ev (begE D i TA cT FA cF (psL i th) (fsL i)) = p.2 := fun p hp => by
    have hp' : p = (.cmp .lss (v 2) (.tn (v 1)), true) ∨ p = (.cmp .leq (.lit 0) (v 2), true) ∨ p = (.cmp .leq (.plus (.tn (v 2)) (.lit 1)) (.lit 1048576), true) := by
      cases z <;> simp only [bsB, List.mem_append, List.mem_cons, List.not_mem_nil, or_false] at hp
      · rcases hp with (h | h) | h
        · exact .inl h
        · exact .inr (.inl h)
        · exact .inr (.inr h)
      · rcases hp with h | h
        · exact .inl h
        · exact .inr (.inl h)
    rcases hp' with rfl | rfl | rfl
    · show decide ((i : Int) < (((D.n : Nat) : Int).toNat : Int)) = true
      exact decide_eq_true (by omega)
    · show decide ((0 : Int) ≤ (i : Int)) = true
      exact decide_eq_true (by omega)
    · show decide ((((i : Int).toNat : Int) + 1) ≤ 1048576) = true
      exact decide_eq_true (by omega)
  have hm : ∀ p ∈ memB, ¬ begOwn D i TA FA w (p.1.ev (begE D i TA cT FA cF (psL i th) (fsL i))).block ∧ w.cell? (p.1.ev (begE D i TA cT FA cF (psL i th) (fsL i))) = some (p.2.ev (begE D i TA cT FA cF (psL i th) (fsL i))) := fun p hp => by
    obtain rfl := List.mem_singleton.1 hp
    exact ⟨B.notOwn B.stat.bty (by decide) (by decide) (by decide), B.stat.body i hi⟩
  have hall : ∀ p ∈ hpB z, (p.1 = 10 ∧ p.2 = .cells (runC z) 87) ∨ (0 < i ∧ p = (20, .pre false 40 (v 2) [] [] [] 30 (v 22))) ∨ (0 < i ∧ p = (21, .pre false 41 (v 2) [] [] [] 4 (v 23))) := fun p hp => by
    cases z with
    | true =>
      obtain rfl := List.mem_singleton.1 hp
      exact .inl ⟨rfl, rfl⟩
    | false =>
      have h0 : 0 < i := by have := of_decide_eq_false hz.symm; omega
      simp only [hpB, List.mem_cons, List.not_mem_nil, or_false] at hp
      rcases hp with rfl | rfl | rfl
      · exact .inr (.inr ⟨h0, rfl⟩)
      · exact .inr (.inl ⟨h0, rfl⟩)
      · exact .inl ⟨rfl, rfl⟩
  have eR : AV.evs (begE D i TA cT FA cF (psL i th) (fsL i)) (runC z) = runV D (hdV i TA cT) nilV nilV nilV (hdV i FA cF) false := by
    cases z with
    | true =>
      obtain rfl : i = 0 := of_decide_eq_true hz.symm
      rfl
    | false =>
      obtain ⟨i', rfl⟩ : ∃ i', i = i' + 1 := ⟨i - 1, by have := of_decide_eq_false hz.symm; omega⟩
      rfl
  have hr := B.run
  rw [← eR] at hr
  have h1 : ∀ p ∈ hpB z, ∃ o, w.heap[(begE D i TA cT FA cF (psL i th) (fsL i)).b p.1]? = some o ∧ p.2.is Try.prog (begE D i TA cT FA cF (psL i th) (fsL i)) o := fun p hp => by
    rcases hall p hp with ⟨e1, e2⟩ | ⟨h0, rfl⟩ | ⟨h0, rfl⟩
    · rw [e1, e2]
      exact ObjAt.is (P := Try.prog) hr
    · exact (B.arrT h0).is (ρ := begE D i TA cT FA cF (psL i th) (fsL i)) rfl (fun inf hinf => by
        rw [psize 30 (.inl rfl) inf hinf, psL_length]
        show i = ((i : Int)).toNat * 1
        omega) (fun p hp => by cases hp) rfl
    · exact (B.arrF h0).is (ρ := begE D i TA cT FA cF (psL i th) (fsL i)) rfl (fun inf hinf => by
        rw [psize 4 (.inr rfl) inf hinf, fsL_length]
        show i = ((i : Int)).toNat * 1
        omega) (fun p hp => by cases hp) rfl
  have h2 : ∀ p ∈ hpB z, begOwn D i TA FA w ((begE D i TA cT FA cF (psL i th) (fsL i)).b p.1) := fun p hp => by
    rcases hall p hp with ⟨e1, e2⟩ | ⟨h0, rfl⟩ | ⟨h0, rfl⟩
    · rw [e1]; exact .inr (.inl rfl)
    · exact .inr (.inr ⟨h0, .inl rfl⟩)
    · exact .inr (.inr ⟨h0, .inr rfl⟩)
  have h3 : ((hpB z).map fun p => (begE D i TA cT FA cF (psL i th) (fsL i)).b p.1).Nodup := by
    cases z with
    | true => simp [hpB]
    | false =>
      have h0 : 0 < i := by have := of_decide_eq_false hz.symm; omega
      have n1 : FA ≠ TA := (B.arrF h0).ty.ne (B.arrT h0).ty (by decide)
      have n2 : FA ≠ D.R := (B.arrF h0).ty.ne B.run.ty (by decide)
      have n3 : TA ≠ D.R := (B.arrT h0).ty.ne B.run.ty (by decide)
      show [FA, TA, D.R].Nodup
      simp [n1, n2, n3]
  have h4 : ∀ p ∈ hpB z, ∀ n, stillI Inb ((begE D i TA cT FA cF (psL i th) (fsL i)).b p.1) n → p.2.lentAt Try.prog (begE D i TA cT FA cF (psL i th) (fsL i)) n := fun p hp n hn => by
    rcases hall p hp with ⟨e1, e2⟩ | ⟨h0, rfl⟩ | ⟨h0, rfl⟩
    · rw [e1] at hn; exact absurd hn (B.nstill B.run.ty (by decide) n)
    · exact absurd hn (B.nstill (B.arrT h0).ty (by decide) n)
    · exact absurd hn (B.nstill (B.arrF h0).ty (by decide) n)
  refine (walkP (cs := cs) (frs := []) B.at' B.own (fun n hn => .inl hn) (b1 z st) (b1Low z st) (b1O z) hf trivial hb hm h1 h2 h3 h4).mono fun m1 T1 hd => ?_
  obtain ⟨w1, ρ', hh, a1, cl, fr', frs', C⟩ := hd
  obtain ⟨s61, t61⟩ := FrRel.toldF C.fr (lv := [(5, ptr0 17), (35, goF)]) C.cur (.inl rfl)
  obtain ⟨a37, rfl, e37⟩ := map_one C.cls
  obtain ⟨f37, rfl, r37⟩ := frs_one C.frs
  have n37 : a37.fn = 37 := congrArg Seen.fn e37
  rw [n37] at e37
  obtain ⟨s37, t37⟩ := FrRel.toldF r37 (lv := unL (v 2)) e37 (.inl rfl)
  have fF : findB 153 hh.hp = some (arrB z 41 ff 4 153) := by rw [C.hp]; rfl
  have fA : findB 151 hh.hp = some (arrB z 40 (ptr0 138) 30 151) := by rw [C.hp]; rfl
  have f5 : findB 142 hh.hp = some (.cells [ptr0 138] 30) := by rw [C.hp]; rfl
  have fT : findB 138 hh.hp = some (.cells (thrC (numB z) 138 126 130 (.ptr none) at0 ff) 78) := by rw [C.hp]; rfl
  have fs : findB 130 hh.hp = some .chan := by rw [C.hp]; rfl
  have fw : findB 126 hh.hp = some .chan := by rw [C.hp]; rfl
  have f3 : findB 101 hh.hp = some (.cells [fvA] 35) := by rw [C.hp]; rfl
  have f2 : findB 100 hh.hp = some (.cells [ptr0 10] 75) := by rw [C.hp]; rfl
  have fR : findB 10 hh.hp = some (.cells (runC' z) 87) := by rw [C.hp]; rfl
  have y10 : ρ'.b 10 = D.R := C.agree.b 10 (by decide)
  have y11 : ρ'.b 11 = D.OB := C.agree.b 11 (by decide)
  have y12 : ρ'.b 12 = D.ci i := C.agree.b 12 (by decide)
  have y13 : ρ'.b 13 = D.X := C.agree.b 13 (by decide)
  have y15 : ρ'.b 15 = D.MB := C.agree.b 15 (by decide)
  have y28 : ρ'.b 28 = D.BA := C.agree.b 28 (by decide)
  have y30 : ρ'.b 30 = D.s1 := C.agree.b 30 (by decide)
  have y31 : ρ'.b 31 = D.s2 := C.agree.b 31 (by decide)
  have x1 : ρ'.i 1 = D.n := C.agree.i 1 (by decide)
  have x2 : ρ'.i 2 = i := C.agree.i 2 (by decide)
  have x29 : ρ'.i 29 = D.cB := C.agree.i 29 (by decide)
  have v40 : ρ'.v 40 = .agg (psL i th).toArray := by rw [C.agree.v]; rfl
  have v41 : ρ'.v 41 = .agg (fsL i).toArray := by rw [C.agree.v]; rfl
  have hPr : ((SK Try.prog D.base Inb).sub (OO (bsB z) [] memB) (begOwn D i TA FA w) fun _ _ => False).P = Try.prog := rfl
  have vA : VecAt Try.prog w1 30 (ρ'.b 151) (psL i th ++ [ptrV (ρ'.b 138)]) (ρ'.i 151).toNat := by
    cases z with
    | true =>
      obtain rfl : i = 0 := of_decide_eq_true hz.symm
      exact vec_of_row C.rel fA
    | false => exact vec_of_pre C.rel fA v40
  have vF : VecAt Try.prog w1 4 (ρ'.b 153) (fsL (i + 1)) (ρ'.i 153).toNat := by
    rw [fsL_succ]
    cases z with
    | true =>
      obtain rfl : i = 0 := of_decide_eq_true hz.symm
      exact vec_of_row C.rel fF
    | false => exact vec_of_pre C.rel fF v41
  have oT := obj_of_cells C.rel fT
  have o5 := obj_of_cells C.rel f5
  have o3 := obj_of_cells C.rel f3
  have o2 := obj_of_cells C.rel f2
  have oR := obj_of_cells C.rel fR
  have eN : (numB z).ev ρ' = (i : Int) := by
    cases z with
    | true =>
      obtain rfl : i = 0 := of_decide_eq_true hz.symm
      rfl
    | false =>
      show (((ρ'.i 2).toNat : Nat) : Int) = _
      rw [x2]; rfl
  have eT : AV.evs ρ' (thrC (numB z) 138 126 130 (.ptr none) at0 ff) = thrV D i ⟨ρ'.b 138, ρ'.b 100, ρ'.b 101, ρ'.b 142, ρ'.b 126, ρ'.b 130⟩ (.pointer none) at0V false := by
    simp only [thrC, at0, i8z, chb, ptr0, List.cons_append, List.nil_append, AV.evs, i64, ff, AV.ev, v, Option.map_some, Option.map_none, AA.ev, BR.ev, IE.ev, BE.ev, y10, eN]
    rfl
  have e3 : AV.evs ρ' [fvA] = [fv D i] := by
    simp only [fvA, AV.evs, ptr0, AV.ev, Option.map_some, AA.ev, BR.ev, IE.ev, y11, y12, y13]
    rfl
  have e2 : AV.evs ρ' [ptr0 10] = [ptrV D.R] := by
    simp only [AV.evs, ptr0, AV.ev, Option.map_some, AA.ev, BR.ev, IE.ev, y10]
    rfl
  have eR' : AV.evs ρ' (runC' z) = runV D (hdV (i + 1) (ρ'.b 151) (ρ'.i 151).toNat) nilV nilV nilV (hdV (i + 1) (ρ'.b 153) (ρ'.i 153).toNat) false := by
    cases z with
    | true =>
      obtain rfl : i = 0 := of_decide_eq_true hz.symm
      simp only [runC', nilA, slc, AV.evs, ff, AV.ev, v, Option.map_some, Option.map_none, AA.ev, BR.ev, IE.ev, BE.ev, y15]
      rfl
    | false =>
      simp only [runC', nilA, slc, AV.evs, ff, AV.ev, v, Option.map_some, Option.map_none, AA.ev, BR.ev, IE.ev, BE.ev, y15, x2]
      rfl
  rw [eT] at oT
  rw [e3] at o3
  rw [e2] at o2
  rw [eR', y10] at oR
  have own := fun {k : Nat} {b : ABlk} (f : findB k hh.hp = some b) (hc : b.isChan = false) => C.rel.own k b f hc
  have ownC : ∀ {k : Nat}, findB k hh.hp = some .chan → begOwn D i TA FA w (ρ'.b k) := fun {k} f => by
    rcases C.rel.own' k _ f with h | ⟨_, h | h⟩
    · exact h
    · exfalso
      obtain ⟨kk, hkk⟩ := chan_of C.rel f
      obtain ⟨j, hj, e, _⟩ := still_thr B.thr B.inb h
      have hT := (B.thr j hj).1.T
      have := hT.keep C.keeps (B.notOwn hT (by decide) (by decide) (by decide))
      rw [← e] at this
      exact this.noChan ⟨kk, hkk⟩ rfl
    · exact h.elim
  refine ⟨⟨ρ'.b 138, ρ'.b 100, ρ'.b 101, ρ'.b 142, ρ'.b 126, ρ'.b 130⟩, fr', f37, s61, s37, ρ'.b 151, (ρ'.i 151).toNat, ρ'.b 153, (ρ'.i 153).toNat, w1, ⟨C.at', fun k AB => t61 _ ?_, fun k t' AB => t37 _ ?_, C.keeps, oR, vA, vF, ⟨o2, o3, o5, chan_of C.rel fw, chan_of C.rel fs, oT.ty⟩, oT, own fT rfl, ⟨own f2 rfl, own f3 rfl, own f5 rfl, ownC fw, ownC fs, ?_, ?_⟩, fun e => ?_, fun e => ?_⟩⟩
  · simp only [List.map_cons, List.map_nil, goF, AV.evs, ptr0, AV.ev, Option.map_some, AA.ev, BR.ev, IE.ev]
    rfl
  · simp only [unL, sched, List.map_cons, List.map_nil, AV.evs, ptr0, slc, i64, AV.ev, Option.map_some, AA.ev, BR.ev, IE.ev, v, x1, x2, x29, y10, y28, y30, y31]
    rfl
  · cases z <;> exact own fA rfl
  · cases z <;> exact own fF rfl
  · have := C.rel.inj _ _ _ _ f5 fA e
    omega
  · have := C.rel.inj _ _ _ _ fw fs e
    omega
end
end Go.Proofs.Ythaddgfbohmfoaa
/-
  GateRounds: one body is begun. Conditions: none.
-/
set_option maxRecDepth 100000
set_option linter.unusedVariables false
set_option linter.unusedSimpArgs false
namespace Go.Proofs.Ythaddgfbohmfoaa
open Go.Proofs.Ythaddgfbohmfoaa.SX Go.Conc
open Go.ConcN (upd upd_ne upd_same)

theorem fn76 : fnOk Try.prog 76 = true := by kernel_rfl
theorem keeps_at (w : World) (d : Nat) (own : Nat → Prop) : Keeps own w (w.at d) := ⟨fun n hn => rfl, Nat.le_refl _, rfl, rfl, rfl⟩

section
variable {D : Dat} {W0 : World} {i : Nat} {cs : List Frame} {m : Machine} {T : Trace} {Inb : Nat → Option Tok.Seat} {th : Nat → Thr} {fr : Frame} {st : Nat → Value} {TA cT FA cF : Nat} {w : World}

theorem beg_step (hi : i < D.n) (B : BegAt D W0 i cs m T Inb th fr st TA cT FA cF w) :
    Gets Try.prog m T fun m' T' => ∃ Inb' th' fr' st' TA' cT' FA' cF' w', BegAt D W0 (i + 1) cs m' T' Inb' th' fr' st' TA' cT' FA' cF' w' ∧ Keeps (begOwn D i TA FA w) w w' := by
  refine (beg_b1 hi B).trans fun m1 T1 hd => ?_
  obtain ⟨t, f61, f37, s61, s37, TA', cT', FA', cF', w1, Q⟩ := hd
  obtain ⟨oc2, oc3, oc5, owk, osd, oTA, oFA⟩ := Q.oc
  have n0 := B.n0
  have geO : ∀ {b : Nat}, begOwn D i TA FA w b → D.base ≤ b := fun h => (B.own _ h).1
  have old_wk : ∀ {x : Nat} {s : Tok.Seat}, Inb x = some s → ¬ begOwn D i TA FA w s.c := fun e => B.notOwnC (B.at'.chan e)
  -- what the later steps own
  have kk : ∀ {own : Nat → Prop} {wa wb : World}, w1.heap.size ≤ wa.heap.size → Keeps own wa wb → (∀ b, own b → wa.heap.size ≤ b ∨ b = t.T ∨ b = t.wk ∨ b = t.sd) → Keeps (fun b => w1.heap.size ≤ b ∨ b = t.T ∨ b = t.wk ∨ b = t.sd) wa wb := fun hs kp h => kp.mono fun b hb => (h b hb).imp (fun x => Nat.le_trans hs x) id
  have nL : ∀ {b : Nat} {e : TypeId}, Ty w1 b e → e ≠ 78 → ¬ (w1.heap.size ≤ b ∨ b = t.T ∨ b = t.wk ∨ b = t.sd) := fun hb he x => by
    rcases x with x | x | x | x
    · exact Nat.not_lt.2 x hb.lt
    · exact hb.ne Q.thr.T he x
    · exact hb.noChan Q.thr.wk x
    · exact hb.noChan Q.thr.sd x
  -- the go statement
  have Γ0 : LGam Try.prog (stE D i 0 t 0) ⟨bgGo s61, [unIn s37], e0⟩ cs (G f61 (f37 :: cs)) := ⟨f61, [f37], Q.fr61 0 0, ⟨Q.fr37 0 t 0, trivial⟩, rfl⟩
  have I0 : LIds (Below 100) ⟨bgGo s61, [unIn s37], e0⟩ := ⟨(low_ids (goLow s61 s37)).cur, (low_ids (goLow s61 s37)).callers⟩
  have k0 : Known (OLm stWk) (stE D i 0 t 0) w1 := ⟨fun p hp => (by cases hp), fun p hp => (by cases hp), fun p hp => by
    simp only [OLm, OL, stWk, List.mem_cons, List.not_mem_nil, or_false] at hp
    rcases hp with rfl | rfl
    · exact Q.thr.c5.cell rfl
    · exact Q.T.cell rfl⟩
  have inWk : (OLm stWk).In (Below 100) := ol_in fun p hp => by
    simp only [stWk, List.mem_cons, List.not_mem_nil, or_false] at hp
    rcases hp with rfl | rfl
    · exact ⟨⟨(by decide : (17 : Nat) < 100), trivial⟩, ⟨(by decide : (14 : Nat) < 100), trivial⟩⟩
    · exact ⟨⟨(by decide : (14 : Nat) < 100), trivial⟩, (by decide : (26 : Nat) < 100)⟩
  refine (SAt.hire Q.at' Γ0 I0 (goAt s61) fn76 chEnter (bare_snd stWk) inWk rfl rfl chWay chRecv k0 Q.thr.wk (fun x s e ec => old_wk e (by rw [ec]; exact owk)) (geO owk)).trans fun m2 T2 hd => ?_
  obtain ⟨d2, a2, A2, I2, fr2, frs2, h2a, h2b, rfl⟩ := hd
  generalize hch : mkSeat Try.prog (OLm stWk) (Below 100) (stE D i 0 t 0) [baseF Try.prog] w1.heap.size ⟨chRv, [], e0⟩ (.dyn 26) (.agg #[]) false = sC at A2
  have kp2 := keeps_at w1 d2 fun _ => False
  generalize hw2 : w1.at d2 = w2 at *
  have sz2 : w1.heap.size ≤ w2.heap.size := kp2.size
  have up : ∀ {x : Nat}, x ≠ D.N0 + i → upd Inb (D.N0 + i) (some sC) x = Inb x := fun h => upd_ne Inb _ h
  -- on to the send
  refine (walkP (cs := cs) A2 (own := fun b => w2.heap.size ≤ b) A2.new (fun n hn => hn) (b2 s61 s37) (b2Low s61 s37) b2O h2a h2b (fun p hp => by cases hp) (fun p hp => by
    simp only [memS, List.mem_cons, List.not_mem_nil, or_false] at hp
    rcases hp with rfl | rfl
    · exact ⟨Nat.not_le.2 ((Q.thr.c5.keep kp2 (fun h => h)).lt), (Q.thr.c5.keep kp2 (fun h => h)).cell rfl⟩
    · exact ⟨Nat.not_le.2 ((Q.T.keep kp2 (fun h => h)).lt), (Q.T.keep kp2 (fun h => h)).cell rfl⟩) (fun p hp => by cases hp) (fun p hp => by cases hp) List.nodup_nil (fun p hp => by cases hp)).trans fun m3 T3 hd => ?_
  obtain ⟨w3, ρ3, hh3, a3, cl3, fr3, frs3, C3⟩ := hd
  obtain ⟨s63, t63⟩ := FrRel.toldF C3.fr (lv := [(0, ptr0 14), (5, chb 26), (6, UN)]) C3.cur (.inl rfl)
  obtain ⟨a61, a37, rfl, e61, e37⟩ := map_two C3.cls
  obtain ⟨g61, g37, rfl, r61, r37⟩ := frs_two C3.frs
  have n61 : a61.fn = 61 := congrArg Seen.fn e61
  have n37 : a37.fn = 37 := congrArg Seen.fn e37
  rw [n61] at e61
  rw [n37] at e37
  obtain ⟨q61, t61⟩ := FrRel.toldF r61 (lv := [(5, ptr0 17)]) e61 (.inl rfl)
  obtain ⟨q37, t37⟩ := FrRel.toldF r37 (lv := unL (v 2)) e37 (.inl rfl)
  have g63 := t63 (stE D i 0 t 0) (evsL C3.agree rfl).symm
  have h61 := t61 (stE D i 0 t 0) (evsL C3.agree rfl).symm
  have h37 := t37 (stE D i 0 t 0) (evsL C3.agree rfl).symm
  have kp3 : Keeps (fun b => w1.heap.size ≤ b ∨ b = t.T ∨ b = t.wk ∨ b = t.sd) w1 w3 := (kp2.mono fun b h => h.elim).trans (kk sz2 C3.keeps fun b h => .inl h)
  have kp3n : Keeps (fun b => w2.heap.size ≤ b) w1 w3 := (kp2.mono fun b h => h.elim).trans C3.keeps
  have sz3 : w2.heap.size ≤ w3.heap.size := C3.keeps.size
  have old3 : ∀ {b : Nat}, b < w1.heap.size → ¬ w2.heap.size ≤ b := fun h => by
    have : w2.heap.size = w1.heap.size := by rw [← hw2]; rfl
    omega
  have T3 := Q.T.keep kp3n (old3 Q.T.lt)
  have sd3 := Q.thr.sd.keep kp3n (old3 Q.thr.sd.lt)
  have wk3 := Q.thr.wk.keep kp3n (old3 Q.thr.wk.lt)
  -- the send
  have k3 : Known (OLm stSd) (stE D i 0 t 0) w3 := ⟨fun p hp => (by cases hp), fun p hp => (by cases hp), fun p hp => by
    obtain rfl := List.mem_singleton.1 hp
    exact T3.cell rfl⟩
  have I3 := low_ids (gsLow s63 q61 q37)
  have hcN : sC.c = t.wk := by rw [← hch]; rfl
  refine (SAt.give (c := ⟨gsSd s63, [bgW q61, unIn q37], e0⟩) (cs := cs) (ρ := stE D i 0 t 0) (U := Below 100) C3.at' ⟨fr3, [g61, g37], g63, ⟨h61, h37, trivial⟩, rfl⟩ ⟨I3.cur, I3.callers⟩ (gsSend s63) (j := D.N0 + i) (t := sC) (upd_same _ _ _) hcN
    (so := some (mkSeat Try.prog (OLm stSd) (Below 100) (stE D i 0 t 0) cs w3.heap.size ⟨gsRv s63, [bgW q61, unIn q37], e0⟩ (.dyn 27) (.agg #[]) false)) (fun s' e => by
      cases e
      refine ⟨mkSeat_fresh k3 sd3 fun x s e ec => ?_, mkSeat_ok rfl rfl (geO osd)⟩
      by_cases hx : x = D.N0 + i
      · rw [hx, upd_same] at e
        cases e
        exact Q.ne (hcN.symm.trans ec)
      · rw [up hx] at e
        exact old_wk e (by rw [ec]; exact osd)) (fun g I' Γ' => ⟨_, fun T' _ => mkSeat_sits (bare_snd stSd) (ol_in fun p hp => by
        obtain rfl := List.mem_singleton.1 hp
        exact ⟨⟨(by decide : (14 : Nat) < 100), trivial⟩, (by decide : (27 : Nat) < 100)⟩) (gsWay s63 _) (gsRecv s63 _) I' Γ' k3 _⟩)).trans fun m4 T4 hd => ?_
  obtain ⟨g4, d4, k4, A4, hhome4, hch4⟩ := hd
  have hok4 : sC.ok = false := by rw [← hch]; rfl
  rw [hcN] at hch4 A4
  rw [← hch] at hhome4
  obtain ⟨IL4, Γ4⟩ := hhome4
  obtain ⟨IL4', Γ4'⟩ := served_ok Γ4 IL4 (v := UN) trivial chBack e0
  obtain ⟨fr4, frs4, h4a, h4b, h4c⟩ := Γ4'
  obtain rfl : frs4 = [] := by
    cases frs4 with
    | nil => rfl
    | cons a b => exact h4b.elim
  have hsv : Conc.served g4 (recvd sC.ok (UN.ev (stE D i 0 t 0)) true) = G fr4 [baseF Try.prog] := by
    rw [hok4]; exact h4c
  rw [hsv] at A4
  have kp4 := keeps_set w3 d4 t.wk (k4 + 1)
  have wk4 := chan_set (d := d4) hch4
  generalize hw4 : (w3.at d4).setChan t.wk 0 #[] false (k4 + 1) (k4 + 1) false = w4 at *
  generalize htM : mkSeat Try.prog (OLm stSd) (Below 100) (stE D i 0 t 0) cs w3.heap.size ⟨gsRv s63, [bgW q61, unIn q37], e0⟩ (.dyn 27) (.agg #[]) false = tM at *
  have sz4 : w1.heap.size ≤ w4.heap.size := Nat.le_trans sz2 (Nat.le_trans sz3 kp4.size)
  have kp14 : Keeps (fun b => w1.heap.size ≤ b ∨ b = t.T ∨ b = t.wk ∨ b = t.sd) w1 w4 := kp3.trans (kp4.mono fun b h => .inr (.inr (.inl h)))
  have kp04 : Keeps (begOwn D i TA FA w) w w4 := Q.keeps.trans (kp14.mono fun b h => by
    rcases h with h | rfl | rfl | rfl
    · exact .inl (Nat.le_trans Q.keeps.size h)
    · exact Q.oT
    · exact owk
    · exact osd)
  have T4 : ObjAt w4 t.T (thrV D i t (.pointer none) at0V false) 78 := T3.keep kp4 (fun e => T3.ty.noChan wk3 e)
  have sd4 : ChanAt w4 t.sd := sd3.keep kp4 (fun e => Q.ne e.symm)
  have Th4 : ThrOk D w4 i t := ⟨Q.thr.c2.keep kp14 (nL Q.thr.c2.ty (by decide)), Q.thr.c3.keep kp14 (nL Q.thr.c3.ty (by decide)), Q.thr.c5.keep kp14 (nL Q.thr.c5.ty (by decide)), wk4, sd4, T4.ty⟩
  have run4 := Q.run.keep kp14 (nL Q.run.ty (by decide))
  have in4 : ∀ {x : Nat} {s : Tok.Seat}, Tok.pass (upd Inb (D.N0 + i) (some sC)) 0 (D.N0 + i) (some tM) x = some s → (x = 0 ∧ s = tM) ∨ (x ≠ 0 ∧ x ≠ D.N0 + i ∧ Inb x = some s) := fun {x s} e => by
    unfold Tok.pass at e
    split at e
    · cases e
    · rename_i hx
      split at e
      · rename_i hx0
        exact .inl ⟨hx0, (Option.some.inj e).symm⟩
      · rename_i hx0
        rw [up hx] at e
        exact .inr ⟨hx0, hx, e⟩
  have tMc : tM.c = t.sd := by rw [← htM]; rfl
  -- the child's first way
  refine (child_first (t := t) hi A4 h4a (B.stat' kp04) Th4 (run4.cell rfl) run4.ty T4 (geO Q.oT) (fun n ⟨x, s, e, hl⟩ => by
    rcases in4 e with ⟨_, rfl⟩ | ⟨_, _, e'⟩
    · rw [← htM] at hl
      obtain ⟨p, hp, e2⟩ := hl
      obtain rfl := List.mem_singleton.1 hp
      have e3 : (⟨t.T, n, none⟩ : Addr) = ⟨t.T, 3, none⟩ := Loc.cell.inj e2
      exact congrArg Addr.off e3
    · exfalso
      obtain ⟨j, hj, e2, _⟩ := still_thr B.thr B.inb (b := t.T) (n := n) ⟨x, s, e', hl⟩
      exact B.notOwn (B.thr j hj).1.T (by decide) (by decide) (by decide) (e2 ▸ Q.oT)) (tM := tM) (Tok.pass_h _ (by omega) _) tMc (by omega) (fun x s e ec => by
    rcases in4 e with ⟨_, rfl⟩ | ⟨_, _, e'⟩
    · exact Q.ne (ec.symm.trans tMc)
    · exact old_wk e' (by rw [ec]; exact owk)) (geO owk)).trans fun m5 T5 hd => ?_
  obtain ⟨so, g5, w5, A5, hhome5, kp5, sd5, T5, now5⟩ := hd
  have hok5 : tM.ok = false := by rw [← htM]; rfl
  rw [← htM] at hhome5
  obtain ⟨IL5, Γ5⟩ := hhome5
  obtain ⟨IL5', Γ5'⟩ := served_ok Γ5 IL5 (v := UN) trivial (gsBack s63) e0
  obtain ⟨fr5, frs5, h5a, h5b, h5c⟩ := Γ5'
  have hsv5 : Conc.served g5 (recvd tM.ok (.agg #[]) true) = G fr5 (frs5 ++ cs) := by
    rw [hok5]; exact h5c
  rw [hsv5] at A5
  have kp15 : Keeps (fun b => w1.heap.size ≤ b ∨ b = t.T ∨ b = t.wk ∨ b = t.sd) w1 w5 := kp14.trans (kk sz4 kp5 fun b h => h.imp id fun x => x.imp id .inr)
  have c55 := Q.thr.c5.keep kp15 (nL Q.thr.c5.ty (by decide))
  have sz5 : w1.heap.size ≤ w5.heap.size := kp15.size
  -- back to the loop's head
  refine (walkP (cs := cs) A5 (own := fun b => w5.heap.size ≤ b) A5.new (fun n hn => hn) (b3 s63 q61 q37) (b3Low s63 q61 q37) b3O h5a h5b (fun p hp => by cases hp) (fun p hp => by
    obtain rfl := List.mem_singleton.1 hp
    exact ⟨Nat.not_le.2 c55.lt, c55.cell rfl⟩) (fun p hp => by cases hp) (fun p hp => by cases hp) List.nodup_nil (fun p hp => by cases hp)).mono fun m6 T6 hd => ?_
  obtain ⟨w6, ρ6, hh6, a6, cl6, fr6, frs6, C6⟩ := hd
  obtain ⟨s6, t6⟩ := FrRel.toldF C6.fr (lv := unL (v 2)) C6.cur (.inl rfl)
  obtain rfl : cl6 = [] := List.map_eq_nil_iff.1 C6.cls
  obtain rfl : frs6 = [] := by
    have := C6.frs
    cases frs6 with
    | nil => rfl
    | cons a b => exact this.elim
  have kp16 : Keeps (fun b => w1.heap.size ≤ b ∨ b = t.T ∨ b = t.wk ∨ b = t.sd) w1 w6 := kp15.trans (kk sz5 C6.keeps fun b h => .inl h)
  have kp06 : Keeps (begOwn D i TA FA w) w w6 := Q.keeps.trans (kp16.mono fun b h => by
    rcases h with h | rfl | rfl | rfl
    · exact .inl (Nat.le_trans Q.keeps.size h)
    · exact Q.oT
    · exact owk
    · exact osd)
  have o6 : ∀ {b : Nat}, b < w5.heap.size → ¬ w5.heap.size ≤ b := fun h => Nat.not_le.2 h
  have x1 : ρ6.i 1 = D.n := C6.agree.i 1 (by decide)
  have x2 : ρ6.i 2 = i := C6.agree.i 2 (by decide)
  have x29 : ρ6.i 29 = D.cB := C6.agree.i 29 (by decide)
  have y10 : ρ6.b 10 = D.R := C6.agree.b 10 (by decide)
  have y28 : ρ6.b 28 = D.BA := C6.agree.b 28 (by decide)
  have y30 : ρ6.b 30 = D.s1 := C6.agree.b 30 (by decide)
  have y31 : ρ6.b 31 = D.s2 := C6.agree.b 31 (by decide)
  have hn40 := B.stat.n40
  have ei : iop .add .i64 (i : Int) 1 = ((i + 1 : Nat) : Int) := by
    show IntKind.wrap .i64 ((i : Int) + 1) = _
    rw [wrapN (by omega)]; rfl
  have inF : ∀ {x : Nat} {s : Tok.Seat}, Tok.pass (Tok.pass (upd Inb (D.N0 + i) (some sC)) 0 (D.N0 + i) (some tM)) (D.N0 + i) 0 so x = some s → (x = D.N0 + i) ∨ Inb x = some s := fun {x s} e => by
    by_cases h0 : x = 0
    · rw [h0, Tok.pass_j] at e; cases e
    · by_cases hN : x = D.N0 + i
      · exact .inl hN
      · rw [Tok.pass_ne _ _ h0 hN, Tok.pass_ne _ _ hN h0, up hN] at e
        exact .inr e
  have atN : Tok.pass (Tok.pass (upd Inb (D.N0 + i) (some sC)) 0 (D.N0 + i) (some tM)) (D.N0 + i) 0 so (D.N0 + i) = so := Tok.pass_h _ (by omega) _
  have atJ : ∀ j, j < i → Tok.pass (Tok.pass (upd Inb (D.N0 + i) (some sC)) 0 (D.N0 + i) (some tM)) (D.N0 + i) 0 so (D.N0 + j) = Inb (D.N0 + j) := fun j hj => by
    rw [Tok.pass_ne _ _ (by omega) (by omega), Tok.pass_ne _ _ (by omega) (by omega), up (by omega)]
  refine ⟨_, upd th i t, fr6, s6, TA', cT', FA', cF', w6, ⟨C6.at', fun _ _ _ _ _ _ => t6 _ ?_, B.stat' kp06, Q.run.keep kp16 (nL Q.run.ty (by decide)), fun _ => ?_, fun _ => Q.arrF.keep kp16 (nL Q.arrF.ty (by decide)), fun j hj => ?_, fun g s e => ?_, B.bR, fun _ => ⟨geO oTA, geO oFA⟩, n0, fun j hj => ?_, fun x j hx hj => ?_, fun j hj => ?_⟩, kp06⟩
  · simp only [unL, sched, List.map_cons, List.map_nil, AV.evs, ptr0, slc, i64, AV.ev, Option.map_some, AA.ev, BR.ev, IE.ev, v, x1, x2, x29, y10, y28, y30, y31, ei]
    rfl
  · rw [psL_succ, psL_upd, upd_same]
    exact Q.arrT.keep kp16 (nL Q.arrT.ty (by decide))
  · by_cases hji : j = i
    · subst hji
      rw [upd_same, atN]
      have T6' : Ty w6 t.T 78 := T5.keep C6.keeps (o6 T5.lt)
      refine ⟨⟨Q.thr.c2.keep kp16 (nL Q.thr.c2.ty (by decide)), Q.thr.c3.keep kp16 (nL Q.thr.c3.ty (by decide)), Q.thr.c5.keep kp16 (nL Q.thr.c5.ty (by decide)), ?_, sd5.keep C6.keeps (o6 sd5.lt), T6'⟩, ?_⟩
      · have wk5 : ChanAt w5 t.wk := wk4.keep kp5 (fun x => by
          rcases x with x | x | x
          · exact Nat.not_lt.2 x wk4.lt
          · exact T4.ty.noChan wk4 x.symm
          · exact Q.ne x)
        exact wk5.keep C6.keeps (o6 wk5.lt)
      · rcases now5 with ⟨hk, AB, s33, s11, s10, s76, Bb, hs, oAB, oT⟩ | ⟨hk, hs, vv, a, ha, oT⟩
        · exact .inl ⟨hk, AB, s33, s11, s10, s76, Bb, hs, oAB.keep C6.keeps (o6 oAB.lt), oT.keep C6.keeps (o6 oT.lt)⟩
        · exact .inr ⟨hk, hs, vv, a, ha, oT.keep C6.keeps (o6 oT.lt)⟩
    · have hj' : j < i := by omega
      rw [upd_ne th t hji, atJ j hj']
      exact B.thr' kp06 hj'
  · rcases inF e with rfl | e'
    · exact ⟨i, by omega, rfl⟩
    · obtain ⟨j, hj, rfl⟩ := B.inb g s e'
      exact ⟨j, by omega, rfl⟩
  · by_cases hji : j = i
    · subst hji
      rw [upd_same]
      exact Q.c5
    · have hj' : j < i := by omega
      rw [upd_ne th t hji]
      intro e
      have h := (B.thr j hj').1
      have := e ▸ oTA
      rcases this with x | x | ⟨h0, x | x⟩
      · exact absurd h.c5.lt (Nat.not_lt.2 x)
      · exact h.c5.ty.ne B.run.ty (by decide) x
      · exact B.c5 j hj' x
      · exact h.c5.ty.ne (B.arrF h0).ty (by decide) x
  · by_cases hxi : x = i
    · subst hxi
      rw [upd_same]
      by_cases hji : j = x
      · subst hji
        rw [upd_same]
        exact Q.ne
      · rw [upd_ne th t hji]
        exact fun e => B.notOwnC (B.thr j (by omega)).1.sd (e ▸ owk)
    · rw [upd_ne th t hxi]
      by_cases hji : j = i
      · subst hji
        rw [upd_same]
        exact fun e => B.notOwnC (B.thr x (by omega)).1.wk (e ▸ osd)
      · rw [upd_ne th t hji]
        exact B.chs x j (by omega) (by omega)
  · by_cases hji : j = i
    · subst hji
      rw [upd_same]
      exact ⟨geO osd, geO Q.oT⟩
    · rw [upd_ne th t hji]
      exact B.bS j (by omega)
end
end Go.Proofs.Ythaddgfbohmfoaa

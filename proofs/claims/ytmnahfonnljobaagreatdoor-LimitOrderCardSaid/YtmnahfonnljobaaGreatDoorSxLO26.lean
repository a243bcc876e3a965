/-
  LimitOrder, from its entry to its end. Conditions: none.
-/
import Derived.Test.YtmnahfonnljobaaGreatDoorSxLOg
import Derived.Test.YtmnahfonnljobaaGreatDoorSxLOw1
set_option maxRecDepth 100000
set_option linter.unusedVariables false
set_option linter.unusedSimpArgs false
namespace Go.Proofs.YtmnahfonnljobaaGreatDoor
open Go.Proofs.YtmnahfonnljobaaGreatDoor.SX Go.Conc

noncomputable def O29 (z : Bool) : Orc := { bs := ouZB z, mem := O0.mem, fns := fns, ext := ext, sums := [29] }
theorem ouFin (z : Bool) (st : Nat → Value) : isT (run? Tryz.prog (O29 z) (ext? Tryz.prog (O29 z) tab) (truth 29) 4000 ⟨ouZ z st, [], ⟨[], 100, 5192296858534827628530496329220096⟩⟩) = true := by cases z <;> kernel_rfl
theorem ouFinLow (z : Bool) (st : Nat → Value) : cfgLow 100 ⟨ouZ z st, [], ⟨[], 100, 5192296858534827628530496329220096⟩⟩ = true := by cases z <;> kernel_rfl
theorem ouFinO (z : Bool) : (O29 z).low 100 = true := by cases z <;> kernel_rfl
theorem O0_in : O0.In (fun _ => False) := by
  refine ⟨(fun p hp => by cases hp), (fun p hp => by cases hp), fun p hp => ?_⟩
  obtain rfl := List.mem_singleton.1 hp
  exact ⟨⟨trivial, trivial⟩, ⟨⟨trivial, trivial⟩, trivial⟩⟩
section
variable {base : Nat} {W0 w : World} {L : Lay} {cs : List Frame} {fr : Frame} {d : Dat} {C : Nat} {f g e : Value} {now : Int}
theorem sum29 {z : Bool} {own : Nat → Prop} (Gd2 : ((KZ base).sub (O29 z) own fun _ _ => False).Good) : SumOk ((KZ base).sub (O29 z) own fun _ _ => False) true (truth 29) :=
  truth_ok LNwe fun h => aside_ok (args := []) (O := O0) (ext := ext? Tryz.prog O0 tab) (sum := noSums) (nb := 100) (lim := 5192296858534827628530496329220096) LNwe LNwruns trivial O0_in rfl rfl (fun p hp => hp) Gd2 (fun w => ⟨fns_ok, ext_facts, mixed⟩) (fun w G => ext_ok G (.inl trivial) tab_facts) (fun w G => noSums_ok) h
theorem oz_bs {ρ : Env} {z : Bool} (h15 : ρ.i 15 = (d.ns : Int)) (h54 : ρ.i 54 = (d.ns : Int)) : ∀ p ∈ ouZB z, p.1.ev ρ = p.2 := by
  intro p hp
  cases z with
  | false =>
    obtain rfl := List.mem_singleton.1 hp
    show decide (ρ.i 15 < (((ρ.i 54).toNat : Nat) : Int)) = false
    rw [h15, h54]
    exact decide_eq_false (by omega)
  | true =>
    obtain rfl := List.mem_singleton.1 hp
    show decide (ρ.i 15 < 0) = false
    rw [h15]
    exact decide_eq_false (by omega)
theorem ou_fin (ok : d.Ok base W0) (h0' : OldAt base W0 0 0 (.iface 220 (.agg #[.pointer (some ⟨3, 31, none⟩)]))) (o : On base W0 L w) (hf : OuAt d C f g e now d.ns fr) :
    Walk Tryz.prog true (DK (KZ base)) (fun g' w' => Keeps (fun n => base ≤ n) W0 w' ∧ ∃ ρ', EndsAs (KZ base) 6 ρ' (.returned (.bool (.lit true))) cs g' w') 0 (G fr cs) w := by
  obtain ⟨z, hz⟩ : ∃ z : Bool, (z = false ∧ d.hs = slV d.SA d.so d.ns d.sc) ∨ (z = true ∧ d.hs = nilV) := by
    rcases ok.s with h | h
    · exact ⟨false, .inl ⟨rfl, h⟩⟩
    · exact ⟨true, .inr ⟨rfl, h.2⟩⟩
  have hown : ∀ n, w.heap.size ≤ n → (KZ base).own n := fun n hn => o.new hn
  have Gd2 : ((KZ base).sub (O29 z) (fun n => w.heap.size ≤ n) fun _ _ => False).Good := sub_good (K := KZ base) (O := O29 z) (own := fun n => w.heap.size ≤ n) (still := fun _ _ => False) (KZ_good base) hown
  obtain ⟨ρ, hρ⟩ : ∃ ρ : Env, ρ = mE d C f g e [(13, now), (15, d.ns)] [] [] := ⟨_, rfl⟩
  have es : (stz z).ev ρ = d.hs := by rw [hρ]; exact stz_ev hz rfl rfl rfl rfl
  have hrel : FrRel Tryz.prog ρ (ouZ z (stOf fr)) fr := hf.rel (.inl rfl) (mC o0 (stz z) o6 o7 o4) (by
    show [(0, ρ.v 30), (1, (stz z).ev ρ), (4, Value.bool false), (5, ptrV (ρ.b 10)), (6, ρ.v 36), (7, ρ.v 37), (13, iV (ρ.i 13)), (14, ρ.v 44), (15, iV (ρ.i 15))] = _
    rw [es, hρ]
    rfl) rfl
  have Rl : Rel ((KZ base).sub (O29 z) (fun n => w.heap.size ≤ n) fun _ _ => False) ρ ⟨[], 100, 5192296858534827628530496329220096⟩ w :=
    rel_new (K := KZ base) (O := O29 z) ⟨oz_bs (d := d) (by rw [hρ]; rfl) (by rw [hρ]; rfl), (fun p hp => by cases hp), fun p hp => by
      obtain rfl := List.mem_singleton.1 hp
      refine ⟨?_, cell_keep o.keeps h0'.2 (Nat.not_le.2 h0'.1), fun s => ⟨trivial, fun b n s e => by cases e⟩⟩
      show ¬ w.heap.size ≤ 0
      have := o.le
      have := o.keeps.size
      have := h0'.1
      omega⟩ (fun n hn => hn) fun b n h => h.elim False.elim False.elim
  have W := piece_end (K := KZ base) (main := true) (O := O29 z) (own := fun n => w.heap.size ≤ n) (still := fun _ _ => False) (cs := cs) (frs := []) (KZ_good base) hown ⟨fns_ok, ext_facts, mixed⟩ (ext_ok Gd2 (.inl trivial) tab_facts) (sum29 Gd2) (ouFin z (stOf fr)) (ouFinLow z _) rfl (ouFinO z) hrel trivial Rl
  refine Walk.weaken (fun g' w' hd => ?_) W
  obtain ⟨kp, ρ', he⟩ := hd
  exact ⟨o.keeps.trans (kp.mono hown), ρ', he⟩
/-- The whole run. -/
theorem lo_all (R : d.Raw base W0) (h0' : OldAt base W0 0 0 (.iface 220 (.agg #[.pointer (some ⟨3, 31, none⟩)]))) (o : On base W0 L w) (hf : F6 [.code (bodyOf Tryz.f6)] [(0, d.hl), (1, d.hs)] fr) :
    Walk Tryz.prog true (DK (KZ base)) (fun g' w' => Keeps (fun n => base ≤ n) W0 w' ∧ ∃ ρ', EndsAs (KZ base) 6 ρ' (.returned (.bool (.lit true))) cs g' w') 0 (G fr cs) w := by
  have ok := R.cut
  refine (Walk.trans (m := 0) (fun g' w' hd => ?_) (in_all R o hf)).any
  obtain ⟨fr1, L1, K, T, FB, cF, GB, cG, fs, gs, rfl, on1, M1, f1⟩ := hd
  refine (Walk.trans (m := 0) (fun g' w' hd => ?_) (su_end ok M1 on1 f1)).any
  obtain ⟨fr2, L2, EB, rfl, on2, R2, f2⟩ := hd
  refine (Walk.trans (m := 0) (fun g' w' hd => ?_) (ou_loop ok h0' _ 0 (Nat.zero_add _) R2 (fun j hj => rfl) ⟨fun j hj x hx => (by cases hx), fun j hj hx => (by cases hx)⟩ ⟨Int.le_refl _, by omega⟩ on2 f2)).any
  obtain ⟨fr3, L3, now3, rfl, on3, f3⟩ := hd
  exact ou_fin ok h0' on3 f3
end
theorem loF_ok : enterA Tryz.prog 6 [.opq 30, .opq 31] .normal = .ok ⟨6, 208, ((enterA Tryz.prog 6 [.opq 30, .opq 31] .normal).toOption.map (·.tmps)).getD .leaf, [.code (bodyOf Tryz.f6)], [], .run, .normal⟩ := by kernel_rfl
theorem in_frame (hl hs : Value) : F6 [.code (bodyOf Tryz.f6)] [(0, hl), (1, hs)] (Frame.enter Tryz.prog 6 #[hl, hs] .normal) := by
  let ρ : Env := mkE [] [] [(30, hl), (31, hs)]
  have h := (enterA_ok (U := fun _ => True) loF_ok (.inl rfl) ⟨trivial, trivial, trivial⟩ (ρ := ρ)).1
  exact FAt.of (live := [0, 1]) (vals := [.opq 30, .opq 31]) (dA := []) h (by kernel_rfl) (.inl rfl)
theorem limitOrder_any (d : Dat) (W : World) (R : d.Raw W.heap.size W) (hg : W.cell? ⟨0, 0, none⟩ = some (.iface 220 (.agg #[.pointer (some ⟨3, 31, none⟩)]))) :
    Calls Tryz.prog 6 #[d.hl, d.hs] W fun e W' => e = .returned (.bool true) ∧ Keeps (fun n => W.heap.size ≤ n) W W' :=
  calls_of_walk (K := KZ W.heap.size) fun cs => lo_all (L := fun _ => none) R ⟨cellLt hg, hg⟩ ⟨⟨fun r b k e => (by cases e), fun r r' b k k' e => (by cases e), fun r b k e => (by cases e)⟩, Keeps.refl _ _, Nat.le_refl _⟩ (in_frame d.hl d.hs)
end Go.Proofs.YtmnahfonnljobaaGreatDoor

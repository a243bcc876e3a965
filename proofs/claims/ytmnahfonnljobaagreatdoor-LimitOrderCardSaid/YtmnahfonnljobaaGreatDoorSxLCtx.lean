/-
  A lone goroutine over memory by roles: pieces of its walk, told by values. Conditions: none.
-/
import Derived.Test.YtmnahfonnljobaaGreatDoorSxZFacts
import Derived.Test.YtmnahfonnljobaaGreatDoorSxSems
import Derived.Test.YtmnahfonnljobaaGreatDoorSxTolds
set_option maxRecDepth 100000
set_option linter.unusedVariables false
set_option linter.unusedSectionVars false
set_option linter.unusedSimpArgs false
namespace Go.Proofs.YtmnahfonnljobaaGreatDoor
open Go.Proofs.YtmnahfonnljobaaGreatDoor.SX Go.Conc

noncomputable def OO (bs : List (BE × Bool)) (mem : List (AA × AV)) : Orc := { bs := bs, mem := mem, fns := fns, ext := ext }
noncomputable abbrev XX (bs : List (BE × Bool)) (mem : List (AA × AV)) : Ext := ext? Tryz.prog (OO bs mem) tab
noncomputable def runZ (bs : List (BE × Bool)) (mem : List (AA × AV)) (n : Nat) (ks : List Nat) (c : ACfg) : M ACfg := chunkTo? Tryz.prog (OO bs mem) (XX bs mem) noSums 4000 n ks c
noncomputable def cfg (cur : AFrame) (callers : List AFrame) (hp : List (Nat × ABlk)) : ACfg := ⟨cur, callers, ⟨hp, 100, 5192296858534827628530496329220096⟩⟩
noncomputable def KZ (base : Nat) : Ctx := ⟨Tryz.prog, OO [] [], fun n => base ≤ n, fun _ => True, True, fun _ _ => False⟩
theorem KZ_good (base : Nat) : (KZ base).Good := ⟨fun _ _ _ => trivial, fun _ _ _ _ => trivial, fun _ _ _ h => h.elim, fun _ _ => trivial, trivial, fun _ _ => trivial, fun _ _ _ _ => trivial⟩
abbrev Go1 (base : Nat) (g : Goroutine) (w : World) (Q : Goroutine → World → Prop) : Prop := Walk Tryz.prog true (DK (KZ base)) Q 0 g w

theorem nodup_of {α β γ : Type} {f : α → β} {g : α → γ} : ∀ {l : List α}, (l.map g).Nodup → (∀ x ∈ l, ∀ y ∈ l, f x = f y → g x = g y) → (l.map f).Nodup
  | [], _, _ => List.nodup_nil
  | x :: l, h, e => by
    rw [List.map_cons, List.nodup_cons] at h ⊢
    refine ⟨fun hx => ?_, nodup_of h.2 fun a ha b hb => e a (List.mem_cons_of_mem _ ha) b (List.mem_cons_of_mem _ hb)⟩
    obtain ⟨y, hy, h2⟩ := List.mem_map.1 hx
    exact h.1 (List.mem_map.2 ⟨y, hy, e y (List.mem_cons_of_mem _ hy) x (List.mem_cons_self ..) h2⟩)
theorem find_of {α : Type} : ∀ {l : List (Nat × α)} {i : Nat} {b : α}, (l.map (·.1)).Nodup → (i, b) ∈ l → Go.Proofs.YtmnahfonnljobaaGreatDoor.SX.look (fun a b => Nat.beq a b) i l = some b
  | p :: l, i, b, h, hm => by
    rw [List.map_cons, List.nodup_cons] at h
    have e1 : Go.Proofs.YtmnahfonnljobaaGreatDoor.SX.look (fun a b => Nat.beq a b) i (p :: l) = Bool.rec (Go.Proofs.YtmnahfonnljobaaGreatDoor.SX.look (fun a b => Nat.beq a b) i l) (some p.2) (Nat.beq i p.1) := rfl
    rw [e1]
    rcases List.mem_cons.1 hm with e | hm
    · subst e
      have : Nat.beq i i = true := Nat.beq_refl i
      rw [this]
    · have : Nat.beq i p.1 = false := by
        cases e : Nat.beq i p.1 with
        | false => rfl
        | true =>
          have := Nat.eq_of_beq_eq_true e
          exact absurd (List.mem_map.2 ⟨_, hm, this⟩) h.1
      rw [this]
      exact find_of h.2 hm

/-! ### Memory by roles -/
abbrev Role := Nat × Nat
abbrev Lay := Role → Option (Nat × Blk)
structure On (base : Nat) (W0 : World) (L : Lay) (w : World) : Prop where
  heap : HeapIs Tryz.prog base w L
  keeps : Keeps (fun n => base ≤ n) W0 w
  le : base ≤ W0.heap.size
/-- A cell of old memory. -/
def OldAt (base : Nat) (W0 : World) (A n : Nat) (x : Value) : Prop := A < base ∧ W0.cell? ⟨A, n, none⟩ = some x
/-- A cell that a piece looks at without owning it. -/
def MemO (L : Lay) (drop : List Role) (base : Nat) (W0 : World) (ρ : Env) (p : AA × AV) : Prop :=
  (∃ r k, L r = some ((p.1.ev ρ).block, k) ∧ r ∉ drop ∧ k.cell (p.1.ev ρ).off = some (p.2.ev ρ)) ∨ ((p.1.ev ρ).block < base ∧ W0.cell? (p.1.ev ρ) = some (p.2.ev ρ))
def ownL (ρ : Env) (w : World) (pre : List (Role × Nat × ABlk)) (b : Nat) : Prop := w.heap.size ≤ b ∨ ∃ x ∈ pre, ρ.b x.2.1 = b
def PreL (L : Lay) (ρ : Env) (pre : List (Role × Nat × ABlk)) : Prop := ∀ x ∈ pre, ∃ k, L x.1 = some (ρ.b x.2.1, k) ∧ AbsIs Tryz.prog ρ x.2.2 k
def postL (ρ : Env) (post : List (Role × Nat × ABlk)) : List (Role × Nat × Blk) := post.map fun x => (x.1, ρ.b x.2.1, blkOf ρ x.2.2)
abbrev FA := FAt Tryz.prog
def FAts (ρ : Env) (lives : FuncId → List Nat) : List Seen → List Frame → Prop
  | [], [] => True
  | V :: Vs, f :: fs => FA V.fn V.nt V.todo (V.defers.map (AD.ev ρ)) V.kind ((lives V.fn).zip (AV.evs ρ V.vals)) f ∧ FAts ρ lives Vs fs
  | _, _ => False
def isRun : AMode → Bool
  | .run => true
  | _ => false
def isPlain : CallKind → Bool
  | .normal => true
  | .deferred => true
  | _ => false
theorem plain_is {k : CallKind} (h : isPlain k = true) : plainK k := by
  cases k <;> first | exact .inl rfl | exact .inr rfl | cases h
def tellable (V : Seen) : Bool := isRun V.mode && isPlain V.kind
theorem fats_of {ρ : Env} {lives : FuncId → List Nat} : ∀ {cl : List AFrame} {Vs : List Seen} {fs : List Frame}, cl.map (fun fr => frSeen fr (lives fr.fn)) = Vs → FrRels Tryz.prog ρ cl fs → Vs.all tellable = true → FAts ρ lives Vs fs
  | [], _, fs, h, hr, _ => by
    subst h
    cases fs with
    | nil => exact trivial
    | cons a b => exact hr.elim
  | a :: cl, _, fs, h, hr, ha => by
    subst h
    cases fs with
    | nil => exact hr.elim
    | cons f fs =>
      simp only [List.map_cons, List.all_cons, Bool.and_eq_true] at ha
      refine ⟨?_, fats_of rfl hr.2 ha.2⟩
      have h1 := ha.1
      simp only [tellable, Bool.and_eq_true] at h1
      refine FAt.of (live := lives a.fn) hr.1 ?_ (plain_is h1.2)
      have hm : a.mode = .run := by
        have := h1.1
        cases e : a.mode <;> first | rfl | (simp [frSeen, e, isRun] at this)
      simp only [frSeen, hm]
theorem fats_none {ρ : Env} {lives : FuncId → List Nat} {fs : List Frame} (h : FAts ρ lives [] fs) : fs = [] := by
  cases fs with
  | nil => rfl
  | cons a b => exact h.elim
theorem fats_one {ρ : Env} {lives : FuncId → List Nat} {V : Seen} {fs : List Frame} (h : FAts ρ lives [V] fs) : ∃ f, fs = [f] ∧ FA V.fn V.nt V.todo (V.defers.map (AD.ev ρ)) V.kind ((lives V.fn).zip (AV.evs ρ V.vals)) f := by
  cases fs with
  | nil => exact h.elim
  | cons a b =>
    cases b with
    | nil => exact ⟨a, rfl, h.1⟩
    | cons c d => exact h.2.elim

section
variable {base : Nat} {W0 w : World} {L : Lay} {main : Bool}
theorem cell_keep {w w' : World} {own : Nat → Prop} (kp : Keeps own w w') {a : Addr} {v : Value} (h : w.cell? a = some v) (hb : ¬ own a.block) : w'.cell? a = some v := by
  unfold World.cell? at h ⊢
  rw [kp.heap _ hb]
  exact h
theorem On.new (o : On base W0 L w) {n : Nat} (h : w.heap.size ≤ n) : base ≤ n := by
  have := o.le
  have := o.keeps.size
  omega
theorem MemO.to (o : On base W0 L w) {drop : List Role} {ρ : Env} {p : AA × AV} (h : MemO L drop base W0 ρ p) : MemL L drop w base ρ p := by
  rcases h with h | ⟨h1, h2⟩
  · exact .inl h
  · exact .inr ⟨h1, cell_keep o.keeps h2 (Nat.not_le.2 h1)⟩
theorem own_ok (o : On base W0 L w) {ρ : Env} {pre : List (Role × Nat × ABlk)} (hpre : PreL L ρ pre) : ∀ b, ownL ρ w pre b → base ≤ b := by
  rintro b (hb | ⟨x, hx, rfl⟩)
  · exact o.new hb
  · obtain ⟨k, h1, h2⟩ := hpre x hx
    exact o.heap.ge _ _ _ h1
theorem mem_ok (o : On base W0 L w) {ρ : Env} {pre : List (Role × Nat × ABlk)} (hpre : PreL L ρ pre) {p : AA × AV} (hm : MemL L (pre.map (·.1)) w base ρ p) : ¬ ownL ρ w pre (p.1.ev ρ).block ∧ w.cell? (p.1.ev ρ) = some (p.2.ev ρ) := by
  rcases hm with ⟨r, k, h1, h2, h3⟩ | ⟨h1, h2⟩
  · refine ⟨?_, ?_⟩
    · rintro (hb | ⟨x, hx, e⟩)
      · exact Nat.not_lt.2 hb (o.heap.lt h1)
      · obtain ⟨k', h4, _⟩ := hpre x hx
        rw [e] at h4
        exact h2 (List.mem_map.2 ⟨x, hx, (o.heap.inj _ _ _ _ _ h1 h4).symm⟩)
    · have := o.heap.cell h1 h3
      rw [AA.ev_none ρ p.1]
      exact this
  · refine ⟨fun hb => ?_, h2⟩
    have := own_ok o hpre _ hb
    omega
theorem pre_nodup (H : HeapIs Tryz.prog base w L) {ρ : Env} {pre : List (Role × Nat × ABlk)} (hpre : PreL L ρ pre) (hnd : (pre.map (·.1)).Nodup) : ((pre.map (·.2)).map fun p => ρ.b p.1).Nodup := by
  rw [List.map_map]
  refine nodup_of hnd fun x hx y hy e => ?_
  obtain ⟨k, h1, _⟩ := hpre x hx
  obtain ⟨k', h2, _⟩ := hpre y hy
  have e' : ρ.b x.2.1 = ρ.b y.2.1 := e
  rw [e'] at h1
  exact H.inj _ _ _ _ _ h1 h2
theorem left_ok {w' : World} {O : Orc} {ρ ρ' : Env} {hh : AH} (o : On base W0 L w) {pre post : List (Role × Nat × ABlk)} (hpre : PreL L ρ pre) (kp : Keeps (ownL ρ w pre) w w') (Rl : Rel ((KZ base).sub O (ownL ρ w pre) fun _ _ => False) ρ' hh w') (hp : hh.hp = post.map (·.2)) (hnd : (post.map (·.2.1)).Nodup) :
    HeapIs Tryz.prog base w' (relay L (pre.map (·.1)) (postL ρ' post)) := by
  have hfind : ∀ x ∈ post, findB x.2.1 hh.hp = some x.2.2 := fun x hx => by
    rw [hp]
    exact find_of (by rw [List.map_map]; exact hnd) (List.mem_map.2 ⟨x, hx, rfl⟩)
  have hblk : ∀ x ∈ post, ∃ o, w'.heap[ρ'.b x.2.1]? = some o ∧ x.2.2.is Tryz.prog ρ' o := fun x hx => Rl.blk _ _ (hfind x hx)
  refine o.heap.relay kp (fun r b k e hr hb => ?_) (fun y hy => ?_) ?_
  · rcases hb with hb | ⟨x, hx, e'⟩
    · exact Nat.not_lt.2 hb (o.heap.lt e)
    · obtain ⟨k', h1, _⟩ := hpre x hx
      rw [e'] at h1
      exact hr (List.mem_map.2 ⟨x, hx, (o.heap.inj _ _ _ _ _ e h1).symm⟩)
  · obtain ⟨x, hx, rfl⟩ := List.mem_map.1 hy
    obtain ⟨q, h1, h2⟩ := hblk x hx
    have hown : ownL ρ w pre (ρ'.b x.2.1) := by
      rcases Rl.own' _ _ (hfind x hx) with h3 | ⟨hc, h3⟩
      · exact h3
      · exact (h3.elim False.elim False.elim)
    exact ⟨is_blk h1 h2, hown, own_ok o hpre _ hown⟩
  · rw [postL, List.map_map]
    refine nodup_of hnd fun x hx y hy e => ?_
    exact Rl.inj _ _ _ _ (hfind x hx) (hfind y hy) e

/-- A piece, over roles. -/
theorem walkZ {fr : Frame} {frs cs : List Frame} (o : On base W0 L w) (pre post : List (Role × Nat × ABlk)) {bs : List (BE × Bool)} {mem : List (AA × AV)} {n : Nat} {ks : List Nat} {cur : AFrame} {callers : List AFrame} {live : List Nat} {lives : FuncId → List Nat} {V : Seen} {Vs : List Seen}
    (hv : seeF (runZ bs mem n ks (cfg cur callers (pre.map (·.2)))) live lives = some (V, Vs)) (hV : V.hp = post.map (·.2)) (hV' : (V :: Vs).all tellable = true) (hl : cfgLow 100 (cfg cur callers (pre.map (·.2))) = true) (hO : (OO bs mem).low 100 = true) {ρ : Env} (hf : FrRel Tryz.prog ρ cur fr) (hfs : FrRels Tryz.prog ρ callers frs)
    (hb : ∀ p ∈ bs, p.1.ev ρ = p.2) (hm : ∀ p ∈ mem, MemO L (pre.map (·.1)) base W0 ρ p) (hpre : PreL L ρ pre) (hnd : (pre.map (·.1)).Nodup) (hnd' : (post.map (·.2.1)).Nodup) :
    Go1 base (G fr (frs ++ cs)) w fun g' w' => ∃ ρ' fr' frs', g' = G fr' (frs' ++ cs) ∧ On base W0 (relay L (pre.map (·.1)) (postL ρ' post)) w' ∧ Agree (Below 100) ρ ρ' ∧ FA V.fn V.nt V.todo (V.defers.map (AD.ev ρ')) V.kind (live.zip (AV.evs ρ' V.vals)) fr' ∧ FAts ρ' lives Vs frs' := by
  obtain ⟨cl, hs, hcl⟩ := seeF_ok hv
  have hown := own_ok o hpre
  have Gd2 := sub_good (K := KZ base) (O := OO bs mem) (own := ownL ρ w pre) (still := fun _ _ => False) (KZ_good base) hown
  have W := piece (K := KZ base) (main := true) (own := ownL ρ w pre) (still := fun _ _ => False) (O := OO bs mem) (cs := cs) (KZ_good base) hown ⟨fns_ok, ext_facts, mixed⟩ (ext_ok Gd2 (.inl trivial) tab_facts) noSums_ok hs hl rfl hO hf hfs
    (rel_blocks (fun p hp => by
        obtain ⟨x, hx, rfl⟩ := List.mem_map.1 hp
        obtain ⟨k, h1, h2⟩ := hpre x hx
        exact abs_is (o.heap.at' _ _ _ h1) h2) (fun p hp => by
        obtain ⟨x, hx, rfl⟩ := List.mem_map.1 hp
        exact .inr ⟨x, hx, rfl⟩) (pre_nodup o.heap hpre hnd) (fun p hp n hn => hn.elim False.elim False.elim) ⟨hb, (fun p hp => by cases hp), fun p hp => ⟨(mem_ok o hpre ((hm p hp).to o)).1, (mem_ok o hpre ((hm p hp).to o)).2, fun s => ⟨trivial, fun b n s e => by cases e⟩⟩⟩ (fun n hn => .inl hn) fun b n h => h.elim False.elim False.elim)
  refine Walk.weaken (fun g' w' hd => ?_) W
  obtain ⟨ρ', c', fr', frs', C⟩ := hd
  have hcal : c'.callers = cl := congrArg Seen.callers C.seen
  have hhp : c'.h.hp = V.hp := congrArg Seen.hp C.seen
  have hRel := C.rel
  have hfr := C.fr
  have hfrs := C.frs
  have hseen := C.seen
  obtain ⟨cur', callers', hh⟩ := c'
  dsimp only at hcal hhp hRel hfr hfrs
  subst hcal
  simp only [List.all_cons, Bool.and_eq_true] at hV'
  have h1 := hV'.1
  simp only [tellable, Bool.and_eq_true] at h1
  have hmode : V.mode = .run := by
    have := h1.1
    cases e : V.mode <;> first | rfl | (simp [e, isRun] at this)
  refine ⟨ρ', fr', frs', C.gor, ⟨left_ok o hpre C.keeps hRel (hhp.trans hV) hnd', o.keeps.trans (C.keeps.mono hown), o.le⟩, C.agree, ?_, fats_of hcl hfrs hV'.2⟩
  refine FAt.of hfr ?_ (plain_is h1.2)
  unfold Seen.under seenOf at hseen
  unfold frSeen
  simp only [Seen.mk.injEq] at hseen ⊢
  exact ⟨hseen.1, hseen.2.1, hseen.2.2.1, hseen.2.2.2.1, hseen.2.2.2.2.1.trans hmode, hseen.2.2.2.2.2.1, trivial, trivial, hseen.2.2.2.2.2.2.2.2⟩
end
end Go.Proofs.YtmnahfonnljobaaGreatDoor

/-
  A symbolic run of the model, proved sound, and its use on the given code: a text of its parts. Conditions: none.
-/
import Derived.Test.YtojifefdokekpaaDoorSxAF
set_option linter.unusedSectionVars false
set_option linter.unusedVariables false
set_option linter.unusedSimpArgs false
namespace Go.Proofs.YtojifefdokekpaaDoor.SX
open Go.Conc
noncomputable section
def IE.low (n : Nat) : IE → Bool
  | .lit _ => true
  | .var i => Nat.ble (i + 1) n
  | .op _ _ a b => a.low n && b.low n
  | .conv _ a => a.low n
  | .plus a b => a.low n && b.low n
  | .times a b => a.low n && b.low n
  | .tn a => a.low n
  | .slen _ => true
def BE.low (n : Nat) : BE → Bool
  | .cmp _ a b => a.low n && b.low n
  | _ => true
def BR.low (n : Nat) : BR → Bool
  | .glob _ => true
  | .dyn i => Nat.ble (i + 1) n
def AA.low (n : Nat) (a : AA) : Bool := a.blk.low n && a.off.low n
def optLow {α : Type} (f : α → Bool) : Option α → Bool
  | none => true
  | some a => f a
mutual
def AV.low (n : Nat) : AV → Bool
  | .bool b => b.low n
  | .int _ e => e.low n
  | .ptr a => optLow (AA.low n) a
  | .slice a l c => optLow (AA.low n) a && l.low n && c.low n
  | .map r => optLow (BR.low n) r
  | .chan r => optLow (BR.low n) r
  | .func _ x y => AV.lows n x && AV.lows n y
  | .iface _ v => v.low n
  | .agg x => AV.lows n x
  | .tuple x => AV.lows n x
  | .str _ => true
  | .nilFunc => true
  | .nilIface => true
  | .opq _ => true
  | .raw _ => true
  | .ss _ => true
def AV.lows (n : Nat) : List AV → Bool
  | [] => true
  | a :: x => a.low n && AV.lows n x
end
def TT.low (n : Nat) : TT → Bool
  | .leaf => true
  | .node v l r => v.low n && l.low n && r.low n
def AD.low (n : Nat) (d : AD) : Bool :=
  match d with
  | ⟨.fn _ c, args⟩ => AV.lows n c && AV.lows n args
  | ⟨.builtin _ _ _ _, args⟩ => AV.lows n args
def AMode.low (n : Nat) : AMode → Bool
  | .panicking chain => chain.all fun x => x.1.low n
  | _ => true
def AFrame.low (n : Nat) (fr : AFrame) : Bool := fr.tmps.low n && fr.defers.all (AD.low n) && fr.mode.low n
def ABlk.low (n : Nat) : ABlk → Bool
  | .cells cs _ => AV.lows n cs
  | .row cs _ c => AV.lows n cs && c.low n
  | .lent cs _ _ => AV.lows n cs
  | .map es => es.all fun p => p.1.low n && p.2.low n
  | .chan => true
  | .vmap _ m fs ws => m.low n && fs.all (fun p => p.1.low n && optLow (AV.low n) p.2) && ws.all fun p => p.1.low n && p.2.low n
  | .pre _ _ m fs ws cs _ c => m.low n && fs.all (fun p => p.1.low n && p.2.low n) && ws.all (fun p => p.1.low n && p.2.low n) && AV.lows n cs && c.low n
def nodupB : List Nat → Bool
  | [] => true
  | a :: l => l.all (fun b => !Nat.beq a b) && nodupB l
def cfgLow (n : Nat) (c : ACfg) : Bool :=
  c.cur.low n && c.callers.all (AFrame.low n) && c.h.hp.all (fun p => Nat.ble (p.1 + 1) n && p.2.low n) && nodupB (c.h.hp.map (·.1))
def Orc.low (n : Nat) (O : Orc) : Bool :=
  O.bs.all (fun p => p.1.low n) && O.is.all (fun p => p.1.low n && p.2.low n) && O.mem.all (fun p => p.1.low n && p.2.low n)
def pickB (hp : List (Nat × ABlk)) : List Nat → Option (List (Nat × ABlk))
  | [] => some []
  | k :: ks => match findB k hp, pickB hp ks with
    | some b, some l => some ((k, b) :: l)
    | _, _ => none
def chunkTo? (P : Program) (O : Orc) (ext : Ext) (sum : Sums) (f n : Nat) (ks : List Nat) (c : ACfg) : M ACfg :=
  match steps? P O ext sum f n c with
  | .ok (.inl ⟨cur, callers, ⟨hp, nb, lim⟩⟩) => match nodupB ks, pickB hp ks with
    | true, some hp => .ok ⟨cur, callers, ⟨hp, nb, lim⟩⟩
    | _, _ => .error "chunk blocks"
  | .ok (.inr _) => .error "chunk it ends"
  | .error e => .error e
end
section
variable {n : Nat}
abbrev Below (n : Nat) : Nat → Prop := fun m => m < n
theorem IE.low_in : ∀ {e : IE}, e.low n = true → e.In (Below n) := by
  intro e
  induction e with
  | lit _ => intro _; trivial
  | var i => intro h; exact Nat.le_of_ble_eq_true h
  | op o k a b iha ihb => intro h; simp only [IE.low, Bool.and_eq_true] at h; exact ⟨iha h.1, ihb h.2⟩
  | conv k a ih => exact ih
  | plus a b iha ihb => intro h; simp only [IE.low, Bool.and_eq_true] at h; exact ⟨iha h.1, ihb h.2⟩
  | times a b iha ihb => intro h; simp only [IE.low, Bool.and_eq_true] at h; exact ⟨iha h.1, ihb h.2⟩
  | tn a ih => exact ih
  | slen a => exact fun _ => trivial
theorem BE.low_in {e : BE} (h : e.low n = true) : e.In (Below n) := by
  cases e with
  | cmp o a b => simp only [BE.low, Bool.and_eq_true] at h; exact ⟨IE.low_in h.1, IE.low_in h.2⟩
  | _ => trivial
theorem BR.low_in {e : BR} (h : e.low n = true) : e.In (Below n) := by
  cases e with
  | glob g => trivial
  | dyn i => exact Nat.le_of_ble_eq_true h
theorem AA.low_in {a : AA} (h : a.low n = true) : a.In (Below n) := by
  simp only [AA.low, Bool.and_eq_true] at h; exact ⟨BR.low_in h.1, IE.low_in h.2⟩
theorem optLow_in {α : Type} {f : α → Bool} {g : α → Prop} (hf : ∀ {a}, f a = true → g a) : ∀ {o : Option α}, optLow f o = true → optIn g o
  | none, _ => trivial
  | some _, h => hf h
mutual
theorem AV.low_in : ∀ (a : AV), a.low n = true → a.In (Below n)
  | .bool b, h => by simp only [AV.low] at h; exact BE.low_in h
  | .int _ e, h => by simp only [AV.low] at h; exact IE.low_in h
  | .ptr a, h => by simp only [AV.low] at h; exact optLow_in AA.low_in h
  | .slice a l c, h => by simp only [AV.low, Bool.and_eq_true] at h; exact ⟨optLow_in AA.low_in h.1.1, IE.low_in h.1.2, IE.low_in h.2⟩
  | .map r, h => by simp only [AV.low] at h; exact optLow_in BR.low_in h
  | .chan r, h => by simp only [AV.low] at h; exact optLow_in BR.low_in h
  | .func _ x y, h => by simp only [AV.low, Bool.and_eq_true] at h; exact ⟨AV.lows_in x h.1, AV.lows_in y h.2⟩
  | .iface _ v, h => by simp only [AV.low] at h; exact AV.low_in v h
  | .agg x, h => by simp only [AV.low] at h; exact AV.lows_in x h
  | .tuple x, h => by simp only [AV.low] at h; exact AV.lows_in x h
  | .str _, _ => trivial
  | .nilFunc, _ => trivial
  | .nilIface, _ => trivial
  | .opq _, _ => trivial
  | .raw _, _ => trivial
  | .ss _, _ => trivial
theorem AV.lows_in : ∀ (l : List AV), AV.lows n l = true → AV.Ins (Below n) l
  | [], _ => trivial
  | a :: x, h => by simp only [AV.lows, Bool.and_eq_true] at h; exact ⟨AV.low_in a h.1, AV.lows_in x h.2⟩
end
theorem TT.low_in : ∀ {t : TT}, t.low n = true → t.In (Below n) := by
  intro t
  induction t with
  | leaf => intro _ m; show undefA.In _; simp [undefA, AV.In, AV.Ins]
  | node v l r ihl ihr =>
    intro h m
    simp only [TT.low, Bool.and_eq_true] at h
    cases m with
    | zero => exact AV.low_in _ h.1.1
    | succ m =>
      rw [TT.get_node_succ]
      split
      · exact ihr h.2 _
      · exact ihl h.1.2 _
theorem AD.low_in {d : AD} (h : d.low n = true) : d.In (Below n) := by
  obtain ⟨t, a⟩ := d
  cases t with
  | fn f c => simp only [AD.low, Bool.and_eq_true] at h; exact ⟨AV.lows_in _ h.1, AV.lows_in _ h.2⟩
  | builtin b x t c => exact ⟨trivial, AV.lows_in _ h⟩
theorem AFrame.low_in {fr : AFrame} (h : fr.low n = true) : fr.In (Below n) := by
  simp only [AFrame.low, Bool.and_eq_true] at h
  refine ⟨TT.low_in h.1.1, fun d hd => AD.low_in (List.all_eq_true.1 h.1.2 d hd), ?_⟩
  have h2 := h.2
  cases e : fr.mode with
  | panicking chain =>
    rw [e] at h2
    exact fun x hx => AV.low_in _ (List.all_eq_true.1 h2 x hx)
  | _ => trivial
theorem ABlk.low_in {b : ABlk} (h : b.low n = true) : b.In (Below n) := by
  cases b with
  | cells cs e => exact AV.lows_in _ h
  | row cs e c => simp only [ABlk.low, Bool.and_eq_true] at h; exact ⟨AV.lows_in _ h.1, IE.low_in h.2⟩
  | lent cs e l => exact AV.lows_in _ h
  | map es =>
    intro p hp
    have := List.all_eq_true.1 h p hp
    simp only [Bool.and_eq_true] at this
    exact ⟨AV.low_in _ this.1, AV.low_in _ this.2⟩
  | chan => trivial
  | vmap s m fs ws =>
    simp only [ABlk.low, Bool.and_eq_true] at h
    obtain ⟨⟨h1, h2⟩, h3⟩ := h
    refine ⟨IE.low_in h1, fun p hp => ?_, fun p hp => ?_⟩
    · have := List.all_eq_true.1 h2 p hp
      simp only [Bool.and_eq_true] at this
      exact ⟨AA.low_in this.1, optLow_in (fun h => AV.low_in _ h) this.2⟩
    · have := List.all_eq_true.1 h3 p hp
      simp only [Bool.and_eq_true] at this
      exact ⟨AV.low_in _ this.1, AV.low_in _ this.2⟩
  | pre lk s m fs ws cs e c =>
    simp only [ABlk.low, Bool.and_eq_true] at h
    obtain ⟨⟨⟨⟨h1, h2⟩, h3⟩, h4⟩, h5⟩ := h
    have two : ∀ {l : List (IE × AV)}, (l.all fun p => p.1.low n && p.2.low n) = true → ∀ p ∈ l, p.1.In (Below n) ∧ p.2.In (Below n) := fun h p hp => by
      have := List.all_eq_true.1 h p hp
      simp only [Bool.and_eq_true] at this
      exact ⟨IE.low_in this.1, AV.low_in _ this.2⟩
    exact ⟨IE.low_in h1, two h2, two h3, AV.lows_in _ h4, IE.low_in h5⟩
theorem nodupB_ok : ∀ {l : List Nat}, nodupB l = true → l.Nodup
  | [], _ => List.nodup_nil
  | a :: l, h => by
    simp only [nodupB, Bool.and_eq_true] at h
    refine List.nodup_cons.2 ⟨fun hm => ?_, nodupB_ok h.2⟩
    have := List.all_eq_true.1 h.1 a hm
    simp at this
theorem Orc.low_in {O : Orc} (h : O.low n = true) : O.In (Below n) := by
  simp only [Orc.low, Bool.and_eq_true] at h
  refine ⟨fun p hp => BE.low_in (List.all_eq_true.1 h.1.1 p hp), fun p hp => ?_, fun p hp => ?_⟩
  · have := List.all_eq_true.1 h.1.2 p hp
    simp only [Bool.and_eq_true] at this
    exact ⟨IE.low_in this.1, IE.low_in this.2⟩
  · have := List.all_eq_true.1 h.2 p hp
    simp only [Bool.and_eq_true] at this
    exact ⟨AA.low_in this.1, AV.low_in _ this.2⟩
theorem cfgLow_in {K : Ctx} {c : ACfg} (h : cfgLow n c = true) (hn : c.h.nb = n) (hO : K.O.low n = true) : CIds K (Below n) c := by
  simp only [cfgLow, Bool.and_eq_true] at h
  obtain ⟨⟨⟨h1, h2⟩, h3⟩, h4⟩ := h
  have blk : ∀ p ∈ c.h.hp, p.1 < n ∧ p.2.In (Below n) := fun p hp => by
    have := List.all_eq_true.1 h3 p hp
    simp only [Bool.and_eq_true] at this
    exact ⟨Nat.le_of_ble_eq_true this.1, ABlk.low_in this.2⟩
  refine ⟨AFrame.low_in h1, fun fr hf => AFrame.low_in (List.all_eq_true.1 h2 fr hf), fun i b hb => (blk _ (find_mem hb)).2, fun i hi => ?_, nodupB_ok h4, fun m hm _ hl => ?_, Orc.low_in hO⟩
  · obtain ⟨p, hp, rfl⟩ := List.mem_map.1 hi
    exact (blk p hp).1
  · have hl' : m < n := hl
    omega
end
section
variable {K : Ctx} {main : Bool} {U : Nat → Prop} {ρ : Env} {cs : List Frame}
theorem pickB_ok {hp : List (Nat × ABlk)} : ∀ {ks : List Nat} {l : List (Nat × ABlk)}, pickB hp ks = some l → keys l = ks ∧ ∀ p ∈ l, findB p.1 hp = some p.2
  | [], l, h => by cases h; exact ⟨rfl, fun p hp => by cases hp⟩
  | k :: ks, l, h => by
    unfold pickB at h
    split at h
    · rename_i b l' hb hl
      cases h
      obtain ⟨h1, h2⟩ := pickB_ok hl
      refine ⟨by show k :: keys l' = _; rw [h1], fun p hp => ?_⟩
      rcases List.mem_cons.1 hp with rfl | hp
      · exact hb
      · exact h2 p hp
    · cases h
theorem pick_find {hp l : List (Nat × ABlk)} {ks : List Nat} (h : pickB hp ks = some l) {i : Nat} {b : ABlk} (hb : findB i l = some b) : findB i hp = some b := (pickB_ok h).2 _ (find_mem hb)
theorem Rel.sub {hp hp' : List (Nat × ABlk)} {nb lim nb' lim' : Nat} {w : World} (R : Rel K ρ ⟨hp, nb, lim⟩ w) (hs : ∀ i b, findB i hp' = some b → findB i hp = some b) : Rel K ρ ⟨hp', nb', lim'⟩ w :=
  ⟨fun i b h => R.blk i b (hs i b h), fun i b h => R.own' i b (hs i b h), fun i j b c h h' e => R.inj i j b c (hs i b h) (hs j c h') e, R.bs, R.is, R.mem, R.room, fun i b h => R.lent i b (hs i b h), R.low⟩
theorem findB_key_iff {l : List (Nat × ABlk)} {i : Nat} (h : i ∈ keys l) (hn : (keys l).Nodup) : ∃ b, findB i l = some b := by
  obtain ⟨p, hp, rfl⟩ := List.mem_map.1 h
  exact ⟨p.2, mem_find hn hp⟩
theorem Next.pick {w w' : World} {h0 : AH} {cur : AFrame} {callers : List AFrame} {hp l : List (Nat × ABlk)} {nb lim : Nat} {ks : List Nat} {g' : Goroutine} (hk : nodupB ks = true) (hl : pickB hp ks = some l)
    (h : Next K U ρ cs w h0 ⟨cur, callers, ⟨hp, nb, lim⟩⟩ g' w') : Next K U ρ cs w h0 ⟨cur, callers, ⟨l, nb, lim⟩⟩ g' w' := by
  obtain ⟨ρ', a1, a2, a3, a4, R, Γ⟩ := h
  have nd : (keys l).Nodup := by rw [(pickB_ok hl).1]; exact nodupB_ok hk
  have ids : ∀ {V : Nat → Prop}, Ids K V ⟨hp, nb, lim⟩ → Ids K V ⟨l, nb, lim⟩ := fun I =>
    ⟨fun i b hb => I.hp i b (pick_find hl hb), fun i hi => by
      obtain ⟨b, hb⟩ := findB_key_iff hi nd
      exact I.keys i (findB_key (pick_find hl hb)), nd, I.fresh, I.orc⟩
  exact ⟨ρ', a1, a2, ⟨a3.nb, a3.lim, ids a3.ids⟩, ⟨a4.cur, a4.callers, ids a4.ids⟩, R.sub fun i b hb => pick_find hl hb, Γ⟩
theorem chunkTo_ok (Gd : K.Good) (F : K.Facts) {ext : Ext} (X : ExtOk K ext) {sum : Sums} (Z : SumOk K main sum) {f n : Nat} {ks : List Nat} {c c' : ACfg} (he : chunkTo? K.P K.O ext sum f n ks c = .ok c') :
    bot c'.cur.fn c'.callers = bot c.cur.fn c.callers ∧ ∃ N, Leads K main c c' N := by
  unfold chunkTo? at he
  split at he
  · rename_i cur callers hp nb lim hs
    split at he
    · rename_i l hk hl
      cases he
      obtain ⟨b, N, L⟩ := steps_ok (main := main) Gd F X Z hs
      exact ⟨b, N, fun U ρ cs g w I Γ => (L U ρ cs g w I Γ).weaken fun _ _ h => h.pick hk hl⟩
    · cases he
  · cases he
  · cases he
theorem Gam.change {c : ACfg} {g : Goroutine} {w : World} (Γ : Gam K ρ c cs g w) {O : Orc} (F : FactsAt K O ρ w) : Gam (K.with O) ρ c cs g w := ⟨Γ.1.change F, Γ.2⟩
end
end Go.Proofs.YtojifefdokekpaaDoor.SX
set_option linter.unusedVariables false
namespace Go.Proofs.YtojifefdokekpaaDoor.SX
open Go.Conc
noncomputable section
def TT.none : TT → Bool
  | .leaf => true
  | .node v l r => isUndef v && (l.none && r.none)
def swapT (c : ACfg) (t : TT) : ACfg :=
  match c with
  | ⟨⟨fn, nt, _, todo, defers, mode, kind⟩, callers, h⟩ => ⟨⟨fn, nt, t, todo, defers, mode, kind⟩, callers, h⟩
end
section
variable {P : Program} {O : Orc} {base : Nat} {W0 : World} {cs : List Frame}
end
end Go.Proofs.YtojifefdokekpaaDoor.SX
set_option linter.unusedSectionVars false
set_option linter.unusedVariables false
set_option linter.unusedSimpArgs false
namespace Go.Proofs.YtojifefdokekpaaDoor.SX
open Go.Conc
noncomputable def lookN {α : Type} (d : α) (n : Nat) (l : List (Nat × α)) : α := (look (fun a b => Nat.beq a b) n l).getD d
noncomputable def mkE (is : List (Nat × Int)) (bs : List (Nat × Nat)) (vs : List (Nat × Value)) : Env := { i := fun n => lookN 0 n is, p := fun _ => false, v := fun n => lookN undef n vs, b := fun n => lookN 0 n bs, bt := (none, []) }
noncomputable def mkS (is : List (Nat × Int)) (bs : List (Nat × Nat)) (vs : List (Nat × Value)) (ss : List (Nat × ByteArray)) : Env := { mkE is bs vs with s := fun n => lookN ⟨#[]⟩ n ss }
noncomputable def tmpsOf (nt : Nat) (st : Nat → Value) (live : List (Nat × AV)) : TT := TT.fill ((List.range nt).map fun n => (look (fun a b => Nat.beq a b) n live).getD (.raw (st n))) 0 .leaf
theorem tmpsOf_get {nt : Nat} (hn : nt ≤ 60000) (st : Nat → Value) (live : List (Nat × AV)) (n : Nat) : (tmpsOf nt st live).get n = if n < nt then (look (fun a b => Nat.beq a b) n live).getD (.raw (st n)) else undefA := by
  unfold tmpsOf
  rw [TT.get_fill _ 0 .leaf n (by simpa using hn)]
  simp only [List.length_map, List.length_range, Nat.zero_add, Nat.sub_zero, Nat.zero_le, true_and]
  by_cases h : n < nt
  · rw [if_pos h, if_pos h]
    simp [List.getD_eq_getElem?_getD, List.getElem?_map, List.getElem?_range h]
  · rw [if_neg h, if_neg h]; rfl
section
variable {P : Program} {ρ ρ' : Env}
theorem FrRel.move {fr fr' : AFrame} {g : Frame} (h : FrRel P ρ fr g) (e1 : fr'.fn = fr.fn) (e2 : fr'.nt = fr.nt) (e3 : fr'.todo = fr.todo) (e4 : fr.mode = .run) (e5 : fr'.mode = .run) (e6 : fr'.kind = fr.kind) (e7 : plainK fr.kind) (e8 : fr'.defers.map (AD.ev ρ') = fr.defers.map (AD.ev ρ))
    (ht : ∀ n, n < fr.nt → (fr'.tmps.get n).ev ρ' = (fr.tmps.get n).ev ρ) (ho : ∀ n, fr.nt ≤ n → fr'.tmps.get n = undefA) : FrRel P ρ' fr' g := by
  obtain ⟨fn, nt, t, todo, defers, mode, kind⟩ := fr
  obtain ⟨fn', nt', t', todo', defers', mode', kind'⟩ := fr'
  dsimp only at *
  subst e1; subst e2; subst e3; subst e4; subst e5; subst e6
  obtain ⟨tm, td, i, rfl⟩ := h
  refine ⟨tm, td, ⟨⟨i.tmps.size, i.tmps.le, fun n hn => by rw [ht n hn]; exact i.tmps.get n hn, fun n hn => ho n hn⟩, i.kind, fun _ => i.todo rfl, i.fn⟩, ?_⟩
  unfold frameOf
  dsimp only
  have e9 : aB ρ' kind' tm defers' = aB ρ kind' tm defers := by rw [plain_aB e7, plain_aB e7, e8]
  rw [e9, plain_bB e7, plain_bB e7]
  rfl
theorem FrRel.tell {fr : AFrame} {g : Frame} (h : FrRel P ρ fr g) (e4 : fr.mode = .run) (e7 : plainK fr.kind) (e8 : fr.defers = []) {live : List (Nat × AV)} (hl : ∀ n a, look (fun a b => Nat.beq a b) n live = some a → a.ev ρ' = (fr.tmps.get n).ev ρ) :
    FrRel P ρ' ⟨fr.fn, fr.nt, tmpsOf fr.nt (fun n => (fr.tmps.get n).ev ρ) live, fr.todo, [], .run, fr.kind⟩ g := by
  have hle : fr.nt ≤ 60000 := by obtain ⟨tm, td, i, _⟩ := h; exact i.tmps.le
  refine h.move rfl rfl rfl e4 rfl rfl e7 (by rw [e8]; rfl) (fun n hn => ?_) (fun n hn => ?_)
  · dsimp only
    rw [tmpsOf_get hle, if_pos hn]
    cases e : look (fun a b => Nat.beq a b) n live with
    | none => simp [AV.ev]
    | some a => exact hl n a e
  · dsimp only
    rw [tmpsOf_get hle, if_neg (by omega)]
structure Seen where
  fn : FuncId
  nt : Nat
  todo : List Item
  defers : List AD
  mode : AMode
  kind : CallKind
  callers : List AFrame
  hp : List (Nat × ABlk)
  vals : List AV
noncomputable def seenOf (c : ACfg) (live : List Nat) : Seen := ⟨c.cur.fn, c.cur.nt, c.cur.todo, c.cur.defers, c.cur.mode, c.cur.kind, c.callers, c.h.hp, live.map fun n => c.cur.tmps.get n⟩
noncomputable def see (r : M ACfg) (live : List Nat) : Option Seen :=
  match r with
  | .ok c => some (seenOf c live)
  | .error _ => none
theorem see_ok {r : M ACfg} {live : List Nat} {s : Seen} (h : see r live = some s) : ∃ c, r = .ok c ∧ seenOf c live = s := by
  cases r with
  | ok c => exact ⟨c, rfl, Option.some.inj h⟩
  | error e => cases h
end
def EvS (still : Nat → Nat → Prop) (e : Event) : Prop := ∀ b n s, e = ⟨.cell ⟨b, n, none⟩, true, s⟩ → ¬ still b n
def Ctx.sub (K : Ctx) (O : Orc) (own : Nat → Prop) (still : Nat → Nat → Prop) : Ctx := ⟨K.P, O, own, fun e => K.Ev e ∧ EvS still e, K.lock, fun b n => K.still b n ∨ still b n⟩
section
variable {K : Ctx} {O : Orc} {own : Nat → Prop} {still : Nat → Nat → Prop}
theorem sub_good (Gd : K.Good) (h : ∀ n, own n → K.own n) : (K.sub O own still).Good := by
  refine ⟨fun a s ho => ⟨Gd.rd a s (h _ ho), fun b n s' e => by cases e⟩, fun a s ho hn => ⟨Gd.wr a s (h _ ho) fun x => hn (.inl x), fun b n s' e => ?_⟩, fun b n s hs he => ?_, fun m hm => ⟨Gd.ext m hm, fun b n s e => by cases e⟩, ⟨Gd.noRoom, fun b n s e => by cases e⟩, fun L m => ⟨Gd.lock L m, fun b n s e => by cases e⟩, fun r wr s ho => ⟨Gd.obj r wr s (h _ ho), fun b n s' e => by cases e⟩⟩
  · cases e
    exact fun x => hn (.inr x)
  · rcases hs with hs | hs
    · exact Gd.noWr b n s hs he.1
    · exact he.2 b n s rfl hs
theorem sub_dk (h : ∀ n, own n → K.own n) (w w' : World) (es : Array Event) (d : DK (K.sub O own still) w w' es) : DK K w w' es :=
  ⟨d.1.mono h, fun e he => (d.2.1 e he).1, fun b n v hs hc => d.2.2 b n v (.inl hs) hc⟩
end
theorem Walk.along {P : Program} {main : Bool} {D : World → World → Array Event → Prop} {S : Goroutine → World → Prop} {R : World → World → Prop} (r0 : ∀ w, R w w) (rd : ∀ w d w', R (drawnAt w d) w' → R w w') (rd' : ∀ w d, R w (drawnAt w d)) (rt : ∀ w w' w'', R w w' → R w' w'' → R w w'') (rD : ∀ w w' es, D w w' es → R w w') {n : Nat} {g : Goroutine} {w : World} (h : Walk P main D S n g w) :
    Walk P main D (fun g' w' => S g' w' ∧ R w w') n g w := by
  have key : ∀ {k : Nat} {g : Goroutine} {w : World}, WalkI P main D S k g w → ∀ w0, R w0 w → WalkI P main D (fun g' w' => S g' w' ∧ R w0 w') k g w := by
    intro k g w h
    induction h with
    | stop g w hs => exact fun w0 hr => WalkI.stop g w ⟨hs, hr⟩
    | step n g w g' w' es hr hs hdd _ ih => exact fun w0 h0 => WalkI.step n g w g' w' es hr hs hdd fun d => ih d w0 (rt _ _ _ h0 (rd _ d _ (rD _ _ _ (hdd d))))
    | off n g w g' hr hs _ ih => exact fun w0 h0 => WalkI.off n g w g' hr hs fun d => ih d w0 (rt _ _ _ h0 (rd' _ d))
    | on n g w g' hr hs _ ih => exact fun w0 h0 => WalkI.on n g w g' hr hs fun d => ih d w0 (rt _ _ _ h0 (rd' _ d))
  exact key h w (r0 w)
theorem Stays.refl (S : Nat → Nat → Prop) (w : World) : Stays S w w := fun _ _ _ _ h => h
theorem Stays.trans {S : Nat → Nat → Prop} {w w' w'' : World} (h : Stays S w w') (h' : Stays S w' w'') : Stays S w w'' := fun b n v hs hc => h' b n v hs (h b n v hs hc)
structure Came1 (K : Ctx) (U : Nat → Prop) (ρ : Env) (own : Nat → Prop) (still : Nat → Nat → Prop) (O : Orc) (cs : List Frame) (live : List Nat) (V : Seen) (w : World) (g' : Goroutine) (w' : World) (ρ' : Env) (c' : ACfg) (fr' : Frame) (frs' : List Frame) : Prop where
  agree : Agree U ρ ρ'
  keeps : Keeps own w w'
  stays : Stays still w w'
  seen : seenOf c' live = V
  fr : FrRel K.P ρ' c'.cur fr'
  frs : FrRels K.P ρ' c'.callers frs'
  rel : Rel (K.sub O own still) ρ' c'.h w'
  gor : g' = G fr' (frs' ++ cs)
theorem piece {K : Ctx} {main : Bool} (Gd : K.Good) {own : Nat → Prop} {still : Nat → Nat → Prop} (hown : ∀ n, own n → K.own n) {O : Orc} {ext : Ext} {sum : Sums} (F : (K.sub O own still).Facts) (X : ExtOk (K.sub O own still) ext) (Z : SumOk (K.sub O own still) main sum) {f n : Nat} {ks : List Nat} {c : ACfg} {live : List Nat} {V : Seen}
    (hv : see (chunkTo? K.P O ext sum f n ks c) live = some V) {nb : Nat} (hl : cfgLow nb c = true) (hnb : c.h.nb = nb) (hO : O.low nb = true) {ρ : Env} {fr : Frame} {frs cs : List Frame} {w : World} (hf : FrRel K.P ρ c.cur fr) (hfs : FrRels K.P ρ c.callers frs) (R : Rel (K.sub O own still) ρ c.h w) :
    Walk K.P main (DK K) (fun g' w' => ∃ ρ' c' fr' frs', Came1 K (Below nb) ρ own still O cs live V w g' w' ρ' c' fr' frs') 0 (G fr (frs ++ cs)) w := by
  obtain ⟨c', hc, hs⟩ := see_ok hv
  obtain ⟨_, N, L⟩ := chunkTo_ok (K := K.sub O own still) (main := main) (sub_good Gd hown) F X Z hc
  have W := L (Below nb) ρ cs (G fr (frs ++ cs)) w (cfgLow_in (K := K.sub O own still) hl hnb hO) ⟨R, fr, frs, hf, hfs, rfl⟩
  have W2 := Walk.along (R := fun w w' => Stays still w w') (fun w => Stays.refl _ w) (fun w d w' h => h) (fun w d => fun _ _ _ _ h => h) (fun _ _ _ h h' => h.trans h') (fun w w' es h => fun b n v hs hc => h.2.2 b n v (.inr hs) hc) W
  refine (Walk.weaken (fun g' w' hd => ?_) (W2.lax (sub_dk hown))).any
  obtain ⟨⟨ρ', A, kp, gr, hin, R', fr', frs', h1, h2, h3⟩, hst⟩ := hd
  exact ⟨ρ', c', fr', frs', A, kp, hst, hs, h1, h2, R', h3⟩
theorem look_map {P : Nat → AV → Prop} : ∀ {lv : List (Nat × AV)}, (∀ p ∈ lv, P p.1 p.2) → ∀ n a, look (fun a b => Nat.beq a b) n lv = some a → P n a
  | lv, h, n, a, hk => by
    obtain ⟨x, hx, he⟩ := look_some hk
    obtain rfl := Nat.eq_of_beq_eq_true he
    exact h _ hx
theorem told_pairs {ρ ρ2 : Env} {t : TT} : ∀ {lv : List (Nat × AV)}, AV.evs ρ2 (lv.map (·.2)) = AV.evs ρ (lv.map fun p => t.get p.1) → ∀ p ∈ lv, p.2.ev ρ2 = (t.get p.1).ev ρ
  | [], _, p, hp => by cases hp
  | q :: lv, h, p, hp => by
    simp only [List.map_cons, AV.evs, List.cons.injEq] at h
    rcases List.mem_cons.1 hp with rfl | hp
    · exact h.1
    · exact told_pairs h.2 p hp
section
variable {K : Ctx} {U : Nat → Prop} {ρ ρ' : Env} {own : Nat → Prop} {still : Nat → Nat → Prop} {O : Orc} {cs : List Frame} {w : World} {g' : Goroutine} {w' : World} {c' : ACfg} {fr' : Frame} {frs' : List Frame}
theorem Came1.told {lv : List (Nat × AV)} {fn : FuncId} {nt : Nat} {todo : List Item} {kind : CallKind} {callers : List AFrame} {hp : List (Nat × ABlk)} {vals : List AV} (C : Came1 K U ρ own still O cs (lv.map (·.1)) ⟨fn, nt, todo, [], .run, kind, callers, hp, vals⟩ w g' w' ρ' c' fr' frs') (hk : plainK kind) :
    ∃ st, ∀ ρ2 : Env, AV.evs ρ2 (lv.map (·.2)) = AV.evs ρ' vals → FrRel K.P ρ2 ⟨fn, nt, tmpsOf nt st lv, todo, [], .run, kind⟩ fr' := by
  obtain ⟨⟨fn', nt', t, todo', ds, mode, kind'⟩, callers', hp', nb, lim⟩ := c'
  have s := C.seen
  simp only [seenOf, Seen.mk.injEq] at s
  obtain ⟨rfl, rfl, rfl, rfl, rfl, rfl, rfl, rfl, s4⟩ := s
  refine ⟨_, fun ρ2 hv => C.fr.tell (ρ' := ρ2) rfl hk rfl (live := lv) ?_⟩
  refine look_map (P := fun n a => a.ev ρ2 = (t.get n).ev ρ') (told_pairs ?_)
  rw [hv, ← s4, List.map_map]
  rfl
theorem Came1.alone {live : List Nat} {fn : FuncId} {nt : Nat} {todo : List Item} {ds : List AD} {mode : AMode} {kind : CallKind} {hp : List (Nat × ABlk)} {vals : List AV} (C : Came1 K U ρ own still O cs live ⟨fn, nt, todo, ds, mode, kind, [], hp, vals⟩ w g' w' ρ' c' fr' frs') : g' = G fr' cs ∧ c'.h.hp = hp := by
  have s := C.seen
  simp only [seenOf, Seen.mk.injEq] at s
  obtain ⟨_, _, _, _, _, _, hc, hh, _⟩ := s
  have hfs := C.frs
  rw [hc] at hfs
  cases frs' with
  | cons a b => exact absurd hfs (by simp [FrRels])
  | nil => exact ⟨C.gor, hh⟩
end
section
variable {K : Ctx} {ρ ρ' : Env} {w w' : World}
theorem Rel.kept {h : AH} (R : Rel K ρ h w) {own : Nat → Prop} (kp : Keeps own w w') (hb : ∀ i b, findB i h.hp = some b → ¬ own (ρ.b i)) (hm : ∀ p ∈ K.O.mem, ¬ own (p.1.ev ρ).block) : Rel K ρ h w' := by
  refine ⟨fun i b hb' => ?_, R.own', R.inj, R.bs, R.is, fun p hp => ?_, fun n hn => R.room n (Nat.le_trans kp.size hn), R.lent, fun b n hs => Nat.lt_of_lt_of_le (R.low b n hs) kp.size⟩
  · obtain ⟨o, h1, h2⟩ := R.blk i b hb'
    exact ⟨o, by rw [kp.heap _ (hb i b hb')]; exact h1, h2⟩
  · obtain ⟨m1, m2, m3⟩ := R.mem p hp
    refine ⟨m1, ?_, m3⟩
    simp only [World.cell?] at m2 ⊢
    rw [kp.heap _ (hm p hp)]; exact m2
theorem cellLt {a : Addr} {v : Value} (hc : w.cell? a = some v) : a.block < w.heap.size := by
  rcases Nat.lt_or_ge a.block w.heap.size with h' | h'
  · exact h'
  · simp [World.cell?, Array.getElem?_eq_none h'] at hc
end
theorem rel_blocks {K : Ctx} {ρ : Env} {w : World} {O : Orc} {own : Nat → Prop} {still : Nat → Nat → Prop} {hp : List (Nat × ABlk)} {nb lim : Nat} (h1 : ∀ p ∈ hp, ∃ o, w.heap[ρ.b p.1]? = some o ∧ p.2.is K.P ρ o) (h2 : ∀ p ∈ hp, own (ρ.b p.1)) (h3 : (hp.map fun p => ρ.b p.1).Nodup) (h4 : ∀ p ∈ hp, ∀ n, (K.still (ρ.b p.1) n ∨ still (ρ.b p.1) n) → p.2.lentAt K.P ρ n)
    (F : FactsAt (K.sub O own still) O ρ w) (hnew : ∀ n, w.heap.size ≤ n → own n) (hlow : ∀ b n, K.still b n ∨ still b n → b < w.heap.size) : Rel (K.sub O own still) ρ ⟨hp, nb, lim⟩ w :=
  ⟨fun i b hb => h1 (i, b) (find_mem hb), fun i b hb => .inl (h2 (i, b) (find_mem hb)), fun i j b c hb hc e => by
      have := inj_of_nodup (f := fun p : Nat × ABlk => ρ.b p.1) h3 (find_mem hb) (find_mem hc) e
      exact congrArg Prod.fst this, F.bs, F.is, F.mem, hnew, fun i b hb n hs => h4 (i, b) (find_mem hb) n hs, hlow⟩
def ArrAt (w : World) (b off : Nat) (xs : List Value) : Prop := ∀ k v, xs[k]? = some v → w.cell? ⟨b, off + k, none⟩ = some v
theorem ArrAt.keep {w w' : World} {b off : Nat} {xs : List Value} (h : ArrAt w b off xs) {own : Nat → Prop} (kp : Keeps own w w') (hb : ¬ own b) : ArrAt w' b off xs := fun k v hk => by
  have := h k v hk
  simp only [World.cell?] at this ⊢
  rw [kp.heap b hb]; exact this
theorem ArrAt.lt {w : World} {b off : Nat} {xs : List Value} (h : ArrAt w b off xs) {k : Nat} {v : Value} (hk : xs[k]? = some v) : b < w.heap.size := cellLt (h k v hk)
section
variable {P : Program} {ρ : Env}
theorem pre_anew {lk : Bool} {s : Nat} {n c : IE} {fs : List (IE × AV)} {e : TypeId} {i : TypeInfo} {arr : Array Value} {xs rest : List Value} (hx : arr.toList = xs ++ rest) (hi : P.info? e = some i) (hv : ρ.v s = .agg xs.toArray) (hn : xs.length = (n.ev ρ).toNat * i.size) (hf : ∀ p ∈ fs, xs[(p.1.ev ρ).toNat]? = some (p.2.ev ρ)) (hc : arr.size = (c.ev ρ).toNat * i.size) :
    (ABlk.pre lk s n fs [] [] e c).is P ρ (.cells arr e (0, 0)) :=
  .inl ⟨arr, rfl, xs.toArray, rest, i, ⟨hv, hi, by simpa using hn, fun p hp => by simpa using hf p hp, fun p hp => by cases hp⟩, by simpa [wrote, AV.evs] using hx, hc⟩
end
structure VecAt (P : Program) (w : World) (e L : Nat) (xs : List Value) (cap : Nat) : Prop where
  ex : ∃ arr rest i, w.heap[L]? = some (.cells arr e (0, 0)) ∧ P.info? e = some i ∧ arr.toList = xs ++ rest ∧ arr.size = cap * i.size
theorem VecAt.arr {P : Program} {w : World} {e L : Nat} {xs : List Value} {cap : Nat} (h : VecAt P w e L xs cap) : ArrAt w L 0 xs := fun k v hk => by
  obtain ⟨arr, rest, i, h1, h2, h3, h4⟩ := h.ex
  rw [cell?_of h1, Nat.zero_add, ← Array.getElem?_toList, h3, List.getElem?_append_left (List.getElem?_eq_some_iff.1 hk).1]
  exact hk
theorem VecAt.lt {P : Program} {w : World} {e L : Nat} {xs : List Value} {cap : Nat} (h : VecAt P w e L xs cap) : L < w.heap.size := by
  obtain ⟨arr, rest, i, h1, _⟩ := h.ex
  exact heap_lt h1
theorem VecAt.keep {P : Program} {w w' : World} {e L : Nat} {xs : List Value} {cap : Nat} (h : VecAt P w e L xs cap) {own : Nat → Prop} (kp : Keeps own w w') (hb : ¬ own L) : VecAt P w' e L xs cap := by
  obtain ⟨arr, rest, i, h1, h2⟩ := h.ex
  exact ⟨arr, rest, i, by rw [kp.heap L hb]; exact h1, h2⟩
theorem VecAt.is {P : Program} {w : World} {e L : Nat} {xs : List Value} {cap : Nat} (h : VecAt P w e L xs cap) {ρ : Env} {lk : Bool} {s : Nat} {n c : IE} {fs : List (IE × AV)} (hv : ρ.v s = .agg xs.toArray) (hn : ∀ i, P.info? e = some i → xs.length = (n.ev ρ).toNat * i.size) (hf : ∀ p ∈ fs, xs[(p.1.ev ρ).toNat]? = some (p.2.ev ρ)) (hc : (c.ev ρ).toNat = cap) :
    ∃ o, w.heap[L]? = some o ∧ (ABlk.pre lk s n fs [] [] e c).is P ρ o := by
  obtain ⟨arr, rest, i, h1, h2, h3, h4⟩ := h.ex
  exact ⟨_, h1, pre_anew h3 h2 hv (hn i h2) hf (by rw [hc]; exact h4)⟩
end Go.Proofs.YtojifefdokekpaaDoor.SX
set_option linter.unusedVariables false
namespace Go.Proofs.YtojifefdokekpaaDoor.SX
noncomputable section
mutual
def AV.noq (y : Nat) : AV → Bool
  | .opq i => !(Nat.beq i y)
  | .func _ x z => AV.noqs y x && AV.noqs y z
  | .iface _ v => v.noq y
  | .agg x => AV.noqs y x
  | .tuple x => AV.noqs y x
  | .bool _ => true
  | .int _ _ => true
  | .str _ => true
  | .ptr _ => true
  | .slice _ _ _ => true
  | .map _ => true
  | .chan _ => true
  | .nilFunc => true
  | .nilIface => true
  | .raw _ => true
  | .ss _ => true
def AV.noqs (y : Nat) : List AV → Bool
  | [] => true
  | a :: l => a.noq y && AV.noqs y l
end
def TT.noq (y : Nat) : TT → Bool
  | .leaf => true
  | .node v l r => v.noq y && l.noq y && r.noq y
def ABlk.noq (y : Nat) : ABlk → Bool
  | .cells cs _ => AV.noqs y cs
  | .row cs _ _ => AV.noqs y cs
  | .lent cs _ _ => AV.noqs y cs
  | .map es => es.all fun p => p.1.noq y && p.2.noq y
  | .chan => true
  | .vmap _ _ _ _ => false
  | .pre _ s _ fs ws cs _ _ => !(Nat.beq s y) && fs.all (fun p => p.2.noq y) && ws.all (fun p => p.2.noq y) && AV.noqs y cs
def hpNoq (y : Nat) : List (Nat × ABlk) → Bool
  | [] => true
  | p :: l => p.2.noq y && hpNoq y l
def Orc.noq (y : Nat) (O : Orc) : Bool := O.mem.all fun p => p.2.noq y
end
end Go.Proofs.YtojifefdokekpaaDoor.SX
set_option linter.unusedSectionVars false
set_option linter.unusedVariables false
set_option linter.unusedSimpArgs false
namespace Go.Proofs.YtojifefdokekpaaDoor.SX
open Go.Conc
def Env.set (ρ : Env) (y : Nat) (v : Value) (bt : Option Nat × List Deferred) : Env := { ρ with v := fun n => if n = y then v else ρ.v n, bt := bt }
section
variable {ρ : Env} {y : Nat} {v : Value} {bt : Option Nat × List Deferred}
theorem SE.ev_set : ∀ (e : SE), e.ev (ρ.set y v bt) = e.ev ρ := by
  intro e
  induction e with
  | lit t => rfl
  | var i => rfl
  | cat a b iha ihb => simp only [SE.ev, iha, ihb]
theorem IE.ev_set : ∀ (e : IE), e.ev (ρ.set y v bt) = e.ev ρ := by
  intro e
  induction e with
  | lit n => rfl
  | var i => rfl
  | op o k a b iha ihb => simp only [IE.ev, iha, ihb]
  | conv k a ih => simp only [IE.ev, ih]
  | plus a b iha ihb => simp only [IE.ev, iha, ihb]
  | times a b iha ihb => simp only [IE.ev, iha, ihb]
  | tn a ih => simp only [IE.ev, ih]
  | slen a => simp only [IE.ev, SE.ev_set]
theorem BE.ev_set (e : BE) : e.ev (ρ.set y v bt) = e.ev ρ := by
  cases e <;> simp only [BE.ev, IE.ev_set, SE.ev_set] <;> rfl
theorem BR.ev_set (e : BR) : e.ev (ρ.set y v bt) = e.ev ρ := by cases e <;> rfl
theorem AA.ev_set (a : AA) : a.ev (ρ.set y v bt) = a.ev ρ := by simp only [AA.ev, BR.ev_set, IE.ev_set]
theorem opt_set {α β : Type} {g h : α → β} (e : ∀ a, g a = h a) (o : Option α) : o.map g = o.map h := by cases o <;> simp [e]
mutual
theorem AV.ev_set : ∀ (a : AV), (v = ρ.v y ∨ a.noq y = true) → a.ev (ρ.set y v bt) = a.ev ρ
  | .bool b, _ => by simp only [AV.ev, BE.ev_set]
  | .int k e, _ => by simp only [AV.ev, IE.ev_set]
  | .str t, _ => rfl
  | .ptr a, _ => by simp only [AV.ev]; rw [opt_set AA.ev_set]
  | .slice a l c, _ => by simp only [AV.ev, IE.ev_set]; rw [opt_set AA.ev_set]
  | .map r, _ => by simp only [AV.ev]; rw [opt_set BR.ev_set]
  | .chan r, _ => by simp only [AV.ev]; rw [opt_set BR.ev_set]
  | .func f x z, h => by
    have h1 : v = ρ.v y ∨ AV.noqs y x = true := h.imp id fun h => by simp only [AV.noq, Bool.and_eq_true] at h; exact h.1
    have h2 : v = ρ.v y ∨ AV.noqs y z = true := h.imp id fun h => by simp only [AV.noq, Bool.and_eq_true] at h; exact h.2
    simp only [AV.ev, AV.evs_set x h1, AV.evs_set z h2]
  | .nilFunc, _ => rfl
  | .iface t a, h => by simp only [AV.ev, AV.ev_set a (h.imp id fun h => by simp only [AV.noq] at h; exact h)]
  | .nilIface, _ => rfl
  | .agg x, h => by simp only [AV.ev, AV.evs_set x (h.imp id fun h => by simp only [AV.noq] at h; exact h)]
  | .tuple x, h => by simp only [AV.ev, AV.evs_set x (h.imp id fun h => by simp only [AV.noq] at h; exact h)]
  | .opq i, h => by
    simp only [AV.ev]
    show (if i = y then v else ρ.v i) = ρ.v i
    split
    · rename_i e
      rcases h with h | h
      · rw [h, e]
      · simp only [AV.noq, Bool.not_eq_true'] at h
        rw [e] at h
        simp at h
    · rfl
  | .raw u, _ => rfl
  | .ss e, _ => by simp only [AV.ev, SE.ev_set]
theorem AV.evs_set : ∀ (l : List AV), (v = ρ.v y ∨ AV.noqs y l = true) → AV.evs (ρ.set y v bt) l = AV.evs ρ l
  | [], _ => rfl
  | a :: l, h => by
    have h1 : v = ρ.v y ∨ a.noq y = true := h.imp id fun h => by simp only [AV.noqs, Bool.and_eq_true] at h; exact h.1
    have h2 : v = ρ.v y ∨ AV.noqs y l = true := h.imp id fun h => by simp only [AV.noqs, Bool.and_eq_true] at h; exact h.2
    simp only [AV.evs, AV.ev_set a h1, AV.evs_set l h2]
end
theorem TT.get_noq : ∀ {t : TT}, t.noq y = true → ∀ n, (t.get n).noq y = true := by
  intro t
  induction t with
  | leaf => intro _ n; rfl
  | node a l r ihl ihr =>
    intro h n
    simp only [TT.noq, Bool.and_eq_true] at h
    cases n with
    | zero => exact h.1.1
    | succ m =>
      rw [TT.get_node_succ]
      split
      · exact ihr h.2 _
      · exact ihl h.1.2 _
theorem TmpR.set {nt : Nat} {t : TT} {tm : Array Value} (h : TmpR ρ nt t tm) (hn : v = ρ.v y ∨ t.noq y = true) : TmpR (ρ.set y v bt) nt t tm :=
  ⟨h.size, h.le, fun n hl => by rw [h.get n hl, AV.ev_set _ (hn.imp id fun hn => TT.get_noq hn n)], h.out⟩
theorem is_set {P : Program} {b : ABlk} {o : Obj} (hb : v = ρ.v y ∨ b.noq y = true) (h : b.is P ρ o) : b.is P (ρ.set y v bt) o := by
  rcases h with ⟨arr, e, hf⟩ | h
  · refine .inl ⟨arr, e, ?_⟩
    cases b with
    | cells cs e => simp only [ABlk.fits] at hf ⊢; rw [AV.evs_set cs hb]; exact hf
    | lent cs e l => simp only [ABlk.fits] at hf ⊢; rw [AV.evs_set cs hb]; exact hf
    | row cs e c => simp only [ABlk.fits] at hf ⊢; rw [AV.evs_set cs hb, IE.ev_set]; exact hf
    | map es => exact hf.elim
    | chan => exact hf.elim
    | vmap s n fs ws => exact hf.elim
    | pre lk s n fs ws cs e c =>
      obtain ⟨pre, rest, i, h1, h2, h3⟩ := hf
      have hb' : v = ρ.v y ∨ (s ≠ y ∧ (∀ p ∈ fs, p.2.noq y = true) ∧ (∀ p ∈ ws, p.2.noq y = true) ∧ AV.noqs y cs = true) := hb.imp id fun hb => by
        simp only [ABlk.noq, Bool.and_eq_true] at hb
        obtain ⟨⟨⟨b1, b2⟩, b3⟩, b4⟩ := hb
        exact ⟨fun e => by subst e; simp at b1, fun p hp => List.all_eq_true.1 b2 p hp, fun p hp => List.all_eq_true.1 b3 p hp, b4⟩
      refine ⟨pre, rest, i, ⟨?_, h1.info, by rw [IE.ev_set]; exact h1.size, fun p hp => by rw [IE.ev_set, AV.ev_set _ (hb'.imp id fun h => h.2.1 p hp)]; exact h1.fs p hp, fun p hp => by rw [IE.ev_set]; exact h1.ws p hp⟩, ?_, by rw [IE.ev_set]; exact h3⟩
      · rw [← h1.val]
        show (if s = y then v else ρ.v s) = ρ.v s
        split
        · rename_i e
          subst e
          rcases hb' with h | h
          · exact h
          · exact absurd rfl h.1
        · rfl
      · rw [AV.evs_set cs (hb'.imp id fun h => h.2.2.2), h2]
        congr 1
        have : ∀ {l : List (IE × AV)}, (v = ρ.v y ∨ ∀ p ∈ l, p.2.noq y = true) → wrote (ρ.set y v bt) pre.toList l = wrote ρ pre.toList l := by
          intro l
          induction l with
          | nil => intro _; rfl
          | cons p l ih =>
            intro hl
            show (wrote _ _ l).set _ _ = (wrote _ _ l).set _ _
            rw [ih (hl.imp id fun h q hq => h q (List.mem_cons_of_mem _ hq)), IE.ev_set, AV.ev_set _ (hl.imp id fun h => h p (List.mem_cons_self ..))]
        exact (this (hb'.imp id fun h => h.2.2.1)).symm
  · refine .inr ?_
    cases b with
    | map es =>
      obtain ⟨arr, clk, h1, h2⟩ := h
      refine ⟨arr, clk, h1, h2.trans (List.map_congr_left fun p hp => ?_)⟩
      have hx : v = ρ.v y ∨ (p.1.noq y = true ∧ p.2.noq y = true) := hb.imp id fun hb => by
        have := List.all_eq_true.1 hb p hp
        simpa using this
      rw [AV.ev_set p.1 (hx.imp id And.left), AV.ev_set p.2 (hx.imp id And.right)]
    | chan => exact h
    | vmap s n fs ws =>
      rcases hb with hv | hb
      rotate_left
      · cases hb
      have hs : (ρ.set y v bt).v = ρ.v := by
        funext k
        show (if k = y then v else ρ.v k) = ρ.v k
        split
        · rename_i e; rw [e]; exact hv
        · rfl
      obtain ⟨arr, clk, E, h1, h2, h3, h4, h5⟩ := h
      refine ⟨arr, clk, E, h1, by rw [hs]; exact h2, by rw [IE.ev_set]; exact h3, h4.trans ?_, fun p hp => ?_⟩
      · congr 1
        refine List.map_congr_left fun p hp => ?_
        rw [AV.ev_set p.1 (.inl hv), AV.ev_set p.2 (.inl hv)]
      · have hK := h5 p hp
        obtain ⟨a, r⟩ := p
        unfold KeyIs at hK ⊢
        have ea : a.ev (ρ.set y v bt) = a.ev ρ := AA.ev_set a
        cases r with
        | none =>
          rw [ea]
          exact hK
        | some u =>
          dsimp only at hK ⊢
          rw [ea, AV.ev_set u (.inl hv)]
          exact hK
    | _ => exact h.elim
theorem hpNoq_find : ∀ {l : List (Nat × ABlk)}, hpNoq y l = true → ∀ {i : Nat} {b : ABlk}, findB i l = some b → b.noq y = true
  | [], _, i, b, h => by cases h
  | p :: l, hn, i, b, h => by
    simp only [hpNoq, Bool.and_eq_true] at hn
    rw [find_cons] at h
    cases e : Nat.beq i p.1 with
    | true => rw [e] at h; have h' : some p.2 = some b := h; cases h'; exact hn.1
    | false => rw [e] at h; exact hpNoq_find hn.2 h
theorem lentAt_set {P : Program} {b : ABlk} {n : Nat} (h : b.lentAt P ρ n) : b.lentAt P (ρ.set y v bt) n := by
  cases b with
  | pre lk s m fs ws cs e c => simp only [ABlk.lentAt, IE.ev_set]; exact h
  | _ => exact h
theorem Rel.set {K : Ctx} {h : AH} {w : World} (R : Rel K ρ h w) (hn : v = ρ.v y ∨ (hpNoq y h.hp = true ∧ K.O.noq y = true)) : Rel K (ρ.set y v bt) h w :=
  ⟨fun i b hb => by
      obtain ⟨o, h1, h2⟩ := R.blk i b hb
      exact ⟨o, h1, is_set (hn.imp id fun hn => hpNoq_find hn.1 hb) h2⟩, R.own', R.inj, fun p hp => by rw [BE.ev_set]; exact R.bs p hp, fun p hp => by rw [IE.ev_set, IE.ev_set]; exact R.is p hp, fun p hp => by
      rw [AA.ev_set, AV.ev_set p.2 (hn.imp id fun hn => List.all_eq_true.1 hn.2 p hp)]; exact R.mem p hp, R.room, fun i b hb n hs => lentAt_set (R.lent i b hb n hs), R.low⟩
end
def Ctx.less (K : Ctx) (D l : Nat) : Ctx := { K with own := fun n => K.own n ∧ n ≠ D ∧ n ≠ l }
section
variable {K : Ctx} {D l : Nat}
theorem less_D {w w' : World} (h : Keeps (K.less D l).own w w') : w'.heap[D]? = w.heap[D]? := h.heap D fun x => x.2.1 rfl
theorem less_l {w w' : World} (h : Keeps (K.less D l).own w w') : w'.heap[l]? = w.heap[l]? := h.heap l fun x => x.2.2 rfl
structure Lp (w : World) (D l : Nat) (r : Loop) : Prop where
  loop : w.heap[l]? = some (.loop r)
  dfr : w.heap[D]? = some (.deferred (some []))
theorem Lp.kept {w w' : World} {r : Loop} (h : Lp w D l r) (k : Keeps (K.less D l).own w w') : Lp w' D l r := ⟨by rw [less_l k]; exact h.loop, by rw [less_D k]; exact h.dfr⟩
theorem Lp.drawn {w : World} {r : Loop} (h : Lp w D l r) (d : Nat) : Lp (drawnAt w d) D l r := ⟨h.1, h.2⟩
end
section
variable {K : Ctx} {main : Bool} {ext : Ext} {call : FuncId → List AV → AH → M (AE × AH)}
variable {D l : Nat} {cs : List Frame}
theorem Ids.less {U : Nat → Prop} {h : AH} (I : Ids K U h) : Ids (K.less D l) U h := ⟨I.hp, I.keys, I.nodup, I.fresh, I.orc⟩
theorem Rel.less {ρ : Env} {h : AH} {w w' : World} (R : Rel K ρ h w) (R' : Rel K ρ h w') (hD : w.heap.size ≤ D) (hl : w.heap.size ≤ l) (hD' : D < w'.heap.size) (hl' : l < w'.heap.size) : Rel (K.less D l) ρ h w' := by
  have hne : ∀ i b, findB i h.hp = some b → ρ.b i ≠ D ∧ ρ.b i ≠ l := fun i b hb => by
    obtain ⟨o, h1, _⟩ := R.blk i b hb
    have := heap_lt h1
    omega
  exact ⟨R'.blk, fun i b hb => (R'.own' i b hb).imp (fun x => ⟨x, hne i b hb⟩) id, R'.inj, R'.bs, R'.is, fun p hp => ⟨fun x => (R'.mem p hp).1 x.1, (R'.mem p hp).2⟩, fun n hn => ⟨R'.room n hn, by omega, by omega⟩, R'.lent, R'.low⟩
end
end Go.Proofs.YtojifefdokekpaaDoor.SX
set_option linter.unusedSectionVars false
set_option linter.unusedVariables false
set_option linter.unusedSimpArgs false
namespace Go.Proofs.YtojifefdokekpaaDoor.SX
open Go.Conc
noncomputable def frSeen (fr : AFrame) (live : List Nat) : Seen := ⟨fr.fn, fr.nt, fr.todo, fr.defers, fr.mode, fr.kind, [], [], live.map fun n => fr.tmps.get n⟩
noncomputable def seeF (r : M ACfg) (live : List Nat) (lives : FuncId → List Nat) : Option (Seen × List Seen) :=
  match r with
  | .ok ⟨cur, callers, h⟩ => some (seenOf ⟨cur, [], h⟩ live, callers.map fun fr => frSeen fr (lives fr.fn))
  | .error _ => none
noncomputable def Seen.under (V : Seen) (cl : List AFrame) : Seen := ⟨V.fn, V.nt, V.todo, V.defers, V.mode, V.kind, cl, V.hp, V.vals⟩
theorem seeF_ok {r : M ACfg} {live : List Nat} {lives : FuncId → List Nat} {V : Seen} {Vs : List Seen} (h : seeF r live lives = some (V, Vs)) : ∃ cl, see r live = some (V.under cl) ∧ cl.map (fun fr => frSeen fr (lives fr.fn)) = Vs := by
  cases r with
  | error e => cases h
  | ok c =>
    obtain ⟨cur, cl, hh⟩ := c
    have h' : (seenOf ⟨cur, [], hh⟩ live, cl.map fun fr => frSeen fr (lives fr.fn)) = (V, Vs) := Option.some.inj h
    obtain ⟨h1, h2⟩ := Prod.mk.inj h'
    subst h1
    exact ⟨cl, rfl, h2⟩
end Go.Proofs.YtojifefdokekpaaDoor.SX
set_option linter.unusedSectionVars false
set_option linter.unusedVariables false
set_option linter.unusedSimpArgs false
namespace Go.Proofs.YtojifefdokekpaaDoor.SX
open Go.Conc
open Go.ConcN (upd upd_ne upd_same)
structure SeatOk (base : Nat) (s : Tok.Seat) : Prop where
  ge : base ≤ s.c
  cell : ∀ l, s.still l → ∃ b n, l = .cell ⟨b, n, none⟩
  stable : ∀ w w' : World, (∀ b n v, s.still (.cell ⟨b, n, none⟩) → w.cell? ⟨b, n, none⟩ = some v → w'.cell? ⟨b, n, none⟩ = some v) → s.keep w → s.keep w'
  held : ∀ w b n, s.keep w → s.still (.cell ⟨b, n, none⟩) → ∃ v, w.cell? ⟨b, n, none⟩ = some v
def chanOf (Inb : Nat → Option Tok.Seat) (b : Nat) : Prop := ∃ i t, Inb i = some t ∧ t.c = b
def stillI (Inb : Nat → Option Tok.Seat) (b n : Nat) : Prop := ∃ i t, Inb i = some t ∧ t.still (.cell ⟨b, n, none⟩)
def SK (P : Program) (base : Nat) (Inb : Nat → Option Tok.Seat) : Ctx := ⟨P, {}, fun n => base ≤ n ∧ ¬ chanOf Inb n, crewEv (fun a => stillI Inb a.block a.off), False, stillI Inb⟩
def ChanAt (w : World) (b : Nat) : Prop := ∃ k, w.heap[b]? = some (.chan 0 #[] false k k false)
theorem ChanAt.keep {w w' : World} {b : Nat} (h : ChanAt w b) {own : Nat → Prop} (kp : Keeps own w w') (hb : ¬ own b) : ChanAt w' b := by
  obtain ⟨k, hk⟩ := h
  exact ⟨k, by rw [kp.heap b hb]; exact hk⟩
theorem ChanAt.lt {w : World} {b : Nat} (h : ChanAt w b) : b < w.heap.size := by
  obtain ⟨k, hk⟩ := h
  exact heap_lt hk
section
variable {P : Program} {base : Nat} {W0 : World} {Inb : Nat → Option Tok.Seat} {h N : Nat} {m : Machine} {T : Trace} {a : Goroutine} {w : World}
structure SAt (P : Program) (base : Nat) (W0 : World) (Inb : Nat → Option Tok.Seat) (h N : Nat) (m : Machine) (T : Trace) (a : Goroutine) (w : World) : Prop where
  ex : ∃ gs sl q, m = crowd gs w sl ∧ gs.size = N ∧ gs[h]? = some a ∧ Tok.Core P Inb h 0 T gs w q
  ok : ∀ i t, Inb i = some t → SeatOk base t
  keeps : Keeps (fun n => base ≤ n) W0 w
  size : base ≤ w.heap.size
theorem SAt.new (A : SAt P base W0 Inb h N m T a w) (n : Nat) (hn : w.heap.size ≤ n) : (SK P base Inb).own n := by
  obtain ⟨gs, sl, q, _, _, _, C⟩ := A.ex
  refine ⟨Nat.le_trans A.size hn, fun ⟨i, t, e, ec⟩ => ?_⟩
  obtain ⟨k, hk⟩ := C.chans i t e
  have := heap_lt hk
  omega
theorem SAt.low (A : SAt P base W0 Inb h N m T a w) (b n : Nat) (hs : (SK P base Inb).still b n) : b < w.heap.size := by
  obtain ⟨gs, sl, q, _, _, _, C⟩ := A.ex
  obtain ⟨i, t, e, hl⟩ := hs
  obtain ⟨v, hv⟩ := (A.ok i t e).held w b n (C.keep i t e) hl
  exact cellLt hv
theorem SAt.chan (A : SAt P base W0 Inb h N m T a w) {i : Nat} {t : Tok.Seat} (e : Inb i = some t) : ChanAt w t.c := by
  obtain ⟨gs, sl, q, _, _, _, C⟩ := A.ex
  exact C.chans i t e
theorem SAt.keep (A : SAt P base W0 Inb h N m T a w) {i : Nat} {t : Tok.Seat} (e : Inb i = some t) : t.keep w := by
  obtain ⟨gs, sl, q, _, _, _, C⟩ := A.ex
  exact C.keep i t e
theorem SAt.lt (A : SAt P base W0 Inb h N m T a w) {i : Nat} {t : Tok.Seat} (e : Inb i = some t) : i < N := by
  obtain ⟨gs, sl, q, _, hsz, _, C⟩ := A.ex
  rcases Nat.lt_or_ge i gs.size with hi | hi
  · omega
  · rw [(C.above i hi).2] at e; cases e
theorem SAt.hlt (A : SAt P base W0 Inb h N m T a w) : h < N := by
  obtain ⟨gs, sl, q, _, hsz, ha, C⟩ := A.ex
  have := (Array.getElem?_eq_some_iff.1 ha).1
  omega
theorem SAt.free (A : SAt P base W0 Inb h N m T a w) : Inb h = none := by
  obtain ⟨gs, sl, q, _, _, _, C⟩ := A.ex
  exact C.free
theorem SAt.inj (A : SAt P base W0 Inb h N m T a w) {i i' : Nat} {t t' : Tok.Seat} (e : Inb i = some t) (e' : Inb i' = some t') (ec : t.c = t'.c) : i = i' := by
  obtain ⟨gs, sl, q, _, _, _, C⟩ := A.ex
  exact C.inj i i' t t' e e' ec
def Gets (P : Program) (m : Machine) (T : Trace) (Φ : Machine → Trace → Prop) : Prop := ∃ M m' T', runNT P M m T = (.next m', T') ∧ Φ m' T'
theorem Gets.refl {Φ : Machine → Trace → Prop} (h : Φ m T) : Gets P m T Φ := ⟨0, m, T, rfl, h⟩
theorem Gets.trans {Φ Ψ : Machine → Trace → Prop} (h : Gets P m T Φ) (k : ∀ m' T', Φ m' T' → Gets P m' T' Ψ) : Gets P m T Ψ := by
  obtain ⟨M, m1, T1, h1, hp⟩ := h
  obtain ⟨M2, m2, T2, h2, hq⟩ := k m1 T1 hp
  exact ⟨M + M2, m2, T2, runNT_then h1 h2, hq⟩
theorem Gets.mono {Φ Ψ : Machine → Trace → Prop} (h : Gets P m T Φ) (k : ∀ m' T', Φ m' T' → Ψ m' T') : Gets P m T Ψ := by
  obtain ⟨M, m1, T1, h1, hp⟩ := h
  exact ⟨M, m1, T1, h1, k m1 T1 hp⟩
end
section
variable {P : Program} {base : Nat} {W0 : World} {Inb : Nat → Option Tok.Seat} {h N : Nat} {m : Machine} {T : Trace} {a : Goroutine} {w : World}
variable {O : Orc} {U : Nat → Prop} {ρ : Env} {cs : List Frame} {B : Nat} {c c' : ACfg} {r : BR} {z : Value} {ok : Bool}
end
end Go.Proofs.YtojifefdokekpaaDoor.SX
set_option linter.unusedSectionVars false
set_option linter.unusedVariables false
set_option linter.unusedSimpArgs false
namespace Go.Proofs.YtojifefdokekpaaDoor.SX
open Go.Conc
def ObjAt (w : World) (b : Nat) (cs : List Value) (e : TypeId) : Prop := ∃ arr, w.heap[b]? = some (.cells arr e (0, 0)) ∧ arr.toList = cs
def Ty (w : World) (b : Nat) (e : TypeId) : Prop := ∃ arr f, w.heap[b]? = some (.cells arr e f)
section
variable {w w' : World} {b b' : Nat} {cs cs' : List Value} {e e' : TypeId} {own : Nat → Prop}
theorem ObjAt.keep (h : ObjAt w b cs e) (kp : Keeps own w w') (hb : ¬ own b) : ObjAt w' b cs e := by
  obtain ⟨arr, h1, h2⟩ := h
  exact ⟨arr, by rw [kp.heap b hb]; exact h1, h2⟩
theorem Ty.keep (h : Ty w b e) (kp : Keeps own w w') (hb : ¬ own b) : Ty w' b e := by
  obtain ⟨arr, f, h1⟩ := h
  exact ⟨arr, f, by rw [kp.heap b hb]; exact h1⟩
theorem ObjAt.ty (h : ObjAt w b cs e) : Ty w b e := by
  obtain ⟨arr, h1, _⟩ := h
  exact ⟨arr, _, h1⟩
theorem ObjAt.lt (h : ObjAt w b cs e) : b < w.heap.size := by
  obtain ⟨arr, h1, _⟩ := h
  exact heap_lt h1
theorem Ty.lt (h : Ty w b e) : b < w.heap.size := by
  obtain ⟨arr, f, h1⟩ := h
  exact heap_lt h1
theorem Ty.ne (h : Ty w b e) (h' : Ty w b' e') (hn : e ≠ e') : b ≠ b' := by
  rintro rfl
  obtain ⟨arr, f, h1⟩ := h
  obtain ⟨arr', f', h2⟩ := h'
  rw [h1] at h2
  cases h2
  exact hn rfl
theorem Ty.noChan (h : Ty w b e) (h' : ChanAt w b') : b ≠ b' := by
  rintro rfl
  obtain ⟨arr, f, h1⟩ := h
  obtain ⟨k, h2⟩ := h'
  rw [h1] at h2
  cases h2
theorem ObjAt.eqs (h : ObjAt w b cs e) (h' : ObjAt w b cs' e') : cs = cs' := by
  obtain ⟨arr, h1, h2⟩ := h
  obtain ⟨arr', h3, h4⟩ := h'
  rw [h1] at h3
  cases h3
  exact h2.symm.trans h4
theorem ObjAt.cell (h : ObjAt w b cs e) {n : Nat} {v : Value} (hn : cs[n]? = some v) : w.cell? ⟨b, n, none⟩ = some v := by
  obtain ⟨arr, h1, h2⟩ := h
  rw [cell?_of h1, ← Array.getElem?_toList, h2]
  exact hn
theorem VecAt.ty {P : Program} {xs : List Value} {c : Nat} (h : VecAt P w e b xs c) : Ty w b e := by
  obtain ⟨arr, rest, i, h1, _⟩ := h.ex
  exact ⟨arr, _, h1⟩
theorem ObjAt.is {P : Program} {ρ : Env} {l : List AV} (h : ObjAt w b (AV.evs ρ l) e) : ∃ o, w.heap[b]? = some o ∧ (ABlk.cells l e).is P ρ o := by
  obtain ⟨arr, h1, h2⟩ := h
  exact ⟨_, h1, .inl ⟨arr, rfl, h2⟩⟩
theorem ObjAt.isLent {P : Program} {ρ : Env} {l : List AV} {ls : List Nat} (h : ObjAt w b (AV.evs ρ l) e) : ∃ o, w.heap[b]? = some o ∧ (ABlk.lent l e ls).is P ρ o := by
  obtain ⟨arr, h1, h2⟩ := h
  exact ⟨_, h1, .inl ⟨arr, rfl, h2⟩⟩
end
end Go.Proofs.YtojifefdokekpaaDoor.SX
set_option linter.unusedSectionVars false
set_option linter.unusedVariables false
set_option linter.unusedSimpArgs false
namespace Go.Proofs.YtojifefdokekpaaDoor.SX
open Go.Conc
section
variable {P : Program} {base : Nat} {W0 : World} {N : Nat} {m : Machine} {T : Trace} {a : Goroutine} {w : World}
theorem SAt.finish {Inb : Nat → Option Tok.Seat} (hnone : ∀ i, Inb i = none) (A : SAt P base W0 Inb 0 N m T a w) {f : FuncId} (hE : ∃ ρ, EndsAs (SK P base Inb) f ρ (.returned (.bool (.lit true))) [] a w) (hone : oneTmp P f = true) :
    ∃ K last o w3 t3, runNT P (K + 1) m T = (.ended o w3, t3) ∧ runN P K m = .next last ∧ step P last = .ended o w3 ∧ Conc.Good P (fun v W' => v = .bool true ∧ Keeps (fun n => base ≤ n) W0 W') last o w3 t3 := by
  obtain ⟨gs, sl, q, rfl, hsz, ha, C⟩ := A.ex
  obtain ⟨ρ, fr', fn', rfl, hb, hd, hf, hmode, hkind, hq⟩ := hE
  obtain ⟨hL, B, hP⟩ := Tok.over C hnone
  have hAll : ∀ d, stepG P true (G fr' []) (w.at d) = .ended (.done (.bool true)) (w.at d) #[] := by
    intro d
    have hb' : fr'.fn = f := hb
    unfold oneTmp at hone
    have hf' : P.funcs[fr'.fn]? = some fn' := hf
    rw [← hb'] at hone
    rw [hf'] at hone
    dsimp only at hone
    split at hone
    · rename_i tt ht
      have hres : fn'.results = #[.tmp tt] := by apply Array.toList_inj.1; exact ht
      have hq' := hq d (Q := fun x w2 => x = .bool true ∧ w2 = drawnAt w d) ⟨rfl, rfl⟩
      rw [results_tmp hres] at hq'
      have hv : fr'.tmps.getD tt undef = .bool true := ((wq_pure _).1 hq').1
      have hi : P.inits.idxOf? fr'.fn = none := by simpa using hone
      simp [G, stepG, unwind, doReturn, hmode, hd, hf', results_tmp hres, hkind, GStep.after, hv, hi, seen_none]
    · cases hone
  have hgo : Goes P true AtRel (fun _ _ _ => False) (AtEnd P (fun _ => False) B (fun v W' => v = .bool true ∧ Keeps (fun n => base ≤ n) W0 W')) 0 (G fr' []) w := by
    intro w₁ hw
    obtain ⟨d, rfl⟩ := hw
    exact ⟨rfl, _, _, hAll d, (by simp), rfl, A.keeps.trans ⟨fun _ _ => rfl, Nat.le_refl _, rfl, rfl, rfl⟩⟩
  obtain ⟨K, last, o, w3, t3, b1, b2, b3, b4⟩ := beside_ends (D := fun _ _ _ => False) (fun _ _ _ h => h.elim) (sl := sl) ha hL hP hgo
  exact ⟨K, last, o, w3, t3, b1, b2, b3, b4⟩
theorem SAt.start (P : Program) (a : Goroutine) (W : World) (C0 : Tok.Core P (fun _ => none) 0 0 #[] #[a] W (fun _ => 0)) : SAt P W.heap.size W (fun _ => none) 0 1 (crowd #[a] W none) #[] a W :=
  ⟨⟨_, none, _, rfl, rfl, rfl, C0⟩, fun i t e => (by cases e), Keeps.refl _ _, Nat.le_refl _⟩
end
end Go.Proofs.YtojifefdokekpaaDoor.SX
set_option linter.unusedSectionVars false
set_option linter.unusedVariables false
set_option linter.unusedSimpArgs false
namespace Go.Proofs.YtojifefdokekpaaDoor.SX
open Go.Conc
def MapIs (w : World) (b : Nat) (es : List (Value × Value)) : Prop := ∃ arr clk, w.heap[b]? = some (.map arr clk) ∧ arr.toList.map (fun e => (e.key, e.val)) = es
section
variable {w w' : World} {b b' : Nat} {es : List (Value × Value)} {own : Nat → Prop}
theorem MapIs.keep (h : MapIs w b es) (kp : Keeps own w w') (hb : ¬ own b) : MapIs w' b es := by
  obtain ⟨arr, clk, h1, h2⟩ := h
  exact ⟨arr, clk, by rw [kp.heap b hb]; exact h1, h2⟩
theorem MapIs.lt (h : MapIs w b es) : b < w.heap.size := by
  obtain ⟨arr, clk, h1, h2⟩ := h
  exact heap_lt h1
end
inductive Blk where
  | obj (e : TypeId) (cs : List Value)
  | vec (e : TypeId) (cap : Nat) (xs : List Value)
  | map (es : List (Value × Value))
  | chan
def Blk.at (P : Program) (w : World) (b : Nat) : Blk → Prop
  | .obj e cs => ObjAt w b cs e
  | .vec e cap xs => VecAt P w e b xs cap
  | .map es => MapIs w b es
  | .chan => ChanAt w b
def Blk.cell : Blk → Nat → Option Value
  | .obj _ cs, n => cs[n]?
  | .vec _ _ xs, n => xs[n]?
  | _, _ => none
def Blk.isChan : Blk → Bool
  | .chan => true
  | _ => false
section
variable {P : Program} {w w' : World} {b : Nat} {k : Blk} {own : Nat → Prop}
theorem Blk.at_keep (h : k.at P w b) (kp : Keeps own w w') (hb : ¬ own b) : k.at P w' b := by
  cases k with
  | obj e cs => exact ObjAt.keep h kp hb
  | vec e cap xs => exact VecAt.keep h kp hb
  | map es => exact MapIs.keep h kp hb
  | chan => exact ChanAt.keep h kp hb
theorem Blk.at_lt (h : k.at P w b) : b < w.heap.size := by
  cases k with
  | obj e cs => exact ObjAt.lt h
  | vec e cap xs => exact VecAt.lt h
  | map es => exact MapIs.lt h
  | chan => exact ChanAt.lt h
theorem Blk.at_cell (h : k.at P w b) {n : Nat} {v : Value} (hn : k.cell n = some v) : w.cell? ⟨b, n, none⟩ = some v := by
  cases k with
  | obj e cs => exact ObjAt.cell h hn
  | vec e cap xs =>
    have := VecAt.arr h n v hn
    rwa [Nat.zero_add] at this
  | map es => cases hn
  | chan => cases hn
theorem Blk.noChan (h : k.at P w b) (hk : k.isChan = false) (hc : ChanAt w b) : False := by
  cases k with
  | obj e cs => exact (ObjAt.ty h).noChan hc rfl
  | vec e cap xs => exact (VecAt.ty h).noChan hc rfl
  | map es =>
    obtain ⟨arr, clk, h1, _⟩ := h
    obtain ⟨n, h2⟩ := hc
    rw [h1] at h2; cases h2
  | chan => cases hk
theorem Blk.at_set (h : k.at P w b) {d c n m : Nat} (hc : w.heap[c]? = some (.chan 0 #[] false n n false)) : k.at P ((w.at d).setChan c 0 #[] false m m false) b := by
  by_cases e : b = c
  · subst e
    cases hk : k.isChan with
    | false => exact (Blk.noChan h hk ⟨n, hc⟩).elim
    | true =>
      cases k with
      | chan => exact ⟨m, heap_setChan_self (w.at d) (c := b) hc _ _ _ _ _ _⟩
      | _ => cases hk
  · exact Blk.at_keep (own := fun b => b = c) h ⟨fun n hn => heap_setChan_ne (w.at d) _ _ _ _ _ _ (fun e => hn e.symm), by rw [Go.Proofs.YtojifefdokekpaaDoor.SX.size_setChan]; exact Nat.le_refl _, rfl, rfl, rfl⟩ e
end
def AbsIs (P : Program) (ρ : Env) : ABlk → Blk → Prop
  | .cells l e, .obj e' cs => e = e' ∧ AV.evs ρ l = cs
  | .lent l e _, .obj e' cs => e = e' ∧ AV.evs ρ l = cs
  | .pre _ s n fs [] [] e c, .vec e' cap xs => e = e' ∧ ρ.v s = .agg xs.toArray ∧ (∀ i, P.info? e = some i → xs.length = (n.ev ρ).toNat * i.size) ∧ (∀ p ∈ fs, xs[(p.1.ev ρ).toNat]? = some (p.2.ev ρ)) ∧ (c.ev ρ).toNat = cap
  | .map l, .map es => es = l.map fun p => (p.1.ev ρ, p.2.ev ρ)
  | .vmap s n fs ws, .map es => ∃ E, ρ.v s = encE E ∧ E.length = (n.ev ρ).toNat ∧ es = E ++ ws.map (fun p => (p.1.ev ρ, p.2.ev ρ)) ∧ ∀ p ∈ fs, KeyIs ρ E p.1 p.2
  | _, _ => False
theorem abs_is {P : Program} {w : World} {b : Nat} {k : Blk} {ρ : Env} {a : ABlk} (h : k.at P w b) (ha : AbsIs P ρ a k) : ∃ o, w.heap[b]? = some o ∧ a.is P ρ o := by
  unfold AbsIs at ha
  split at ha
  · obtain ⟨rfl, rfl⟩ := ha
    exact ObjAt.is h
  · obtain ⟨rfl, rfl⟩ := ha
    exact ObjAt.isLent h
  · obtain ⟨rfl, h1, h2, h3, h4⟩ := ha
    exact VecAt.is h h1 h2 h3 h4
  · subst ha
    obtain ⟨arr, clk, h1, h2⟩ := h
    exact ⟨_, h1, .inr ⟨arr, clk, rfl, h2⟩⟩
  · obtain ⟨E, h1, h2, rfl, h4⟩ := ha
    obtain ⟨arr, clk, h5, h6⟩ := h
    exact ⟨_, h5, .inr ⟨arr, clk, E, rfl, h1, h2, h6, h4⟩⟩
  · exact ha.elim
def listV : Value → List Value
  | .agg a => a.toList
  | _ => []
def decE (v : Value) : List (Value × Value) := (listV v).map fun p => ((listV p).getD 0 undef, (listV p).getD 1 undef)
theorem decE_enc (E : List (Value × Value)) : decE (encE E) = E := by
  unfold decE encE listV
  simp only [List.map_map]
  conv => rhs; rw [← List.map_id E]
  refine List.map_congr_left fun p hp => ?_
  rfl
def blkOf (ρ : Env) : ABlk → Blk
  | .cells l e => .obj e (AV.evs ρ l)
  | .lent l e _ => .obj e (AV.evs ρ l)
  | .row l e c => .vec e (c.ev ρ).toNat (AV.evs ρ l)
  | .pre _ s _ _ ws cs e c => .vec e (c.ev ρ).toNat (wrote ρ (listV (ρ.v s)) ws ++ AV.evs ρ cs)
  | .map l => .map (l.map fun p => (p.1.ev ρ, p.2.ev ρ))
  | .vmap s _ _ ws => .map (decE (ρ.v s) ++ ws.map fun p => (p.1.ev ρ, p.2.ev ρ))
  | .chan => .chan
theorem is_blk {P : Program} {w : World} {b : Nat} {ρ : Env} {a : ABlk} {o : Obj} (ho : w.heap[b]? = some o) (h : a.is P ρ o) : (blkOf ρ a).at P w b := by
  rcases h with ⟨arr, rfl, hf⟩ | h
  · cases a with
    | cells l e => exact ⟨arr, ho, hf⟩
    | lent l e ls => exact ⟨arr, ho, hf⟩
    | row l e c =>
      obtain ⟨rest, i, h1, h2, h3⟩ := hf
      exact ⟨arr, rest, i, ho, h2, h1, h3⟩
    | pre lk s n fs ws cs e c =>
      obtain ⟨pre, rest, i, h1, h2, h3⟩ := hf
      refine ⟨arr, rest, i, ho, h1.info, ?_, h3⟩
      rw [h1.val, h2]
      simp [listV]
    | map l => exact hf.elim
    | vmap s n fs ws => exact hf.elim
    | chan => exact hf.elim
  · cases a with
    | map l =>
      obtain ⟨arr, clk, rfl, h2⟩ := h
      exact ⟨arr, clk, ho, h2⟩
    | vmap s n fs ws =>
      obtain ⟨arr, clk, E, rfl, h2, h3, h4, h5⟩ := h
      refine ⟨arr, clk, ho, ?_⟩
      rw [h4, h2, decE_enc]
    | chan =>
      obtain ⟨n, rfl⟩ := h
      exact ⟨n, ho⟩
    | _ => exact h.elim
structure HeapIs {ι : Type} (P : Program) (base : Nat) (w : World) (L : ι → Option (Nat × Blk)) : Prop where
  at' : ∀ r b k, L r = some (b, k) → k.at P w b
  inj : ∀ r r' b k k', L r = some (b, k) → L r' = some (b, k') → r = r'
  ge : ∀ r b k, L r = some (b, k) → base ≤ b
section
variable {ι : Type} {P : Program} {base : Nat} {w w' : World} {L L' : ι → Option (Nat × Blk)}
theorem HeapIs.sub (H : HeapIs P base w L) (h : ∀ r x, L' r = some x → L r = some x) : HeapIs P base w L' :=
  ⟨fun r b k e => H.at' r b k (h _ _ e), fun r r' b k k' e e' => H.inj r r' b k k' (h _ _ e) (h _ _ e'), fun r b k e => H.ge r b k (h _ _ e)⟩
theorem HeapIs.keep (H : HeapIs P base w L) {own : Nat → Prop} (kp : Keeps own w w') (hk : ∀ r b k, L r = some (b, k) → ¬ own b) : HeapIs P base w' L :=
  ⟨fun r b k e => Blk.at_keep (H.at' r b k e) kp (hk r b k e), H.inj, H.ge⟩
theorem HeapIs.keepN (H : HeapIs P base w L) (kp : Keeps (fun b => w.heap.size ≤ b) w w') : HeapIs P base w' L :=
  H.keep kp fun r b k e => Nat.not_le.2 (Blk.at_lt (H.at' r b k e))
theorem HeapIs.set (H : HeapIs P base w L) {d c n m : Nat} (hc : w.heap[c]? = some (.chan 0 #[] false n n false)) : HeapIs P base ((w.at d).setChan c 0 #[] false m m false) L :=
  ⟨fun r b k e => Blk.at_set (H.at' r b k e) hc, H.inj, H.ge⟩
theorem HeapIs.draw (H : HeapIs P base w L) (d : Nat) : HeapIs P base (w.at d) L :=
  H.keep (own := fun _ => False) ⟨fun n hn => rfl, Nat.le_refl _, rfl, rfl, rfl⟩ fun r b k e h => h
theorem HeapIs.cell (H : HeapIs P base w L) {r : ι} {b : Nat} {k : Blk} (e : L r = some (b, k)) {n : Nat} {v : Value} (hn : k.cell n = some v) : w.cell? ⟨b, n, none⟩ = some v := Blk.at_cell (H.at' r b k e) hn
theorem HeapIs.chan (H : HeapIs P base w L) {r : ι} {b : Nat} (e : L r = some (b, .chan)) : ChanAt w b := H.at' r b _ e
theorem HeapIs.lt (H : HeapIs P base w L) {r : ι} {b : Nat} {k : Blk} (e : L r = some (b, k)) : b < w.heap.size := Blk.at_lt (H.at' r b k e)
variable [DecidableEq ι]
def relay (L : ι → Option (Nat × Blk)) (drop : List ι) (new : List (ι × Nat × Blk)) : ι → Option (Nat × Blk) := fun r => match new.find? (fun x => decide (x.1 = r)) with
  | some x => some x.2
  | none => if r ∈ drop then none else L r
theorem relay_new {drop : List ι} {new : List (ι × Nat × Blk)} {r : ι} {x : Nat × Blk} (h : relay L drop new r = some x) : (∃ y ∈ new, y = (r, x)) ∨ (r ∉ drop ∧ L r = some x) := by
  unfold relay at h
  split at h
  · rename_i y hy
    cases h
    have h1 := List.mem_of_find?_eq_some hy
    have h2 := List.find?_some hy
    exact .inl ⟨y, h1, by obtain ⟨a, b⟩ := y; simp at h2; rw [h2]⟩
  · split at h
    · cases h
    · rename_i hd
      exact .inr ⟨hd, h⟩
theorem HeapIs.relay (H : HeapIs P base w L) {own : Nat → Prop} (kp : Keeps own w w') {drop : List ι} (hk : ∀ r b k, L r = some (b, k) → r ∉ drop → ¬ own b) {new : List (ι × Nat × Blk)} (hn : ∀ x ∈ new, x.2.2.at P w' x.2.1 ∧ own x.2.1 ∧ base ≤ x.2.1) (hd : (new.map (·.2.1)).Nodup) : HeapIs P base w' (relay L drop new) := by
  refine ⟨fun r b k e => ?_, fun r r' b k k' e e' => ?_, fun r b k e => ?_⟩
  · rcases relay_new e with ⟨y, hy, rfl⟩ | ⟨h1, h2⟩
    · exact (hn _ hy).1
    · exact Blk.at_keep (H.at' r b k h2) kp (hk r b k h2 h1)
  · rcases relay_new e with ⟨y, hy, rfl⟩ | ⟨h1, h2⟩
    · rcases relay_new e' with ⟨y', hy', rfl⟩ | ⟨h1', h2'⟩
      · have := inj_of_nodup (f := fun x : ι × Nat × Blk => x.2.1) hd hy hy' rfl
        exact congrArg Prod.fst this
      · exact absurd (hn _ hy).2.1 (hk _ _ _ h2' h1')
    · rcases relay_new e' with ⟨y', hy', rfl⟩ | ⟨h1', h2'⟩
      · exact absurd (hn _ hy').2.1 (hk _ _ _ h2 h1)
      · exact H.inj r r' b k k' h2 h2'
  · rcases relay_new e with ⟨y, hy, rfl⟩ | ⟨h1, h2⟩
    · exact (hn _ hy).2.2
    · exact H.ge r b k h2
end
def MemL {ι : Type} (L : ι → Option (Nat × Blk)) (drop : List ι) (w : World) (base : Nat) (ρ : Env) (p : AA × AV) : Prop :=
  (∃ r k, L r = some ((p.1.ev ρ).block, k) ∧ r ∉ drop ∧ k.cell (p.1.ev ρ).off = some (p.2.ev ρ)) ∨ ((p.1.ev ρ).block < base ∧ w.cell? (p.1.ev ρ) = some (p.2.ev ρ))
end Go.Proofs.YtojifefdokekpaaDoor.SX
set_option linter.unusedSectionVars false
set_option linter.unusedVariables false
set_option linter.unusedSimpArgs false
namespace Go.Proofs.YtojifefdokekpaaDoor.SX
open Go.Conc
structure FAt (P : Program) (fn : FuncId) (nt : Nat) (todo : List Item) (ds : List Deferred) (kind : CallKind) (lv : List (Nat × Value)) (fr : Frame) : Prop where
  ex : ∃ tm, fr = (mkF fn kind).at ⟨tm, ds⟩ todo ∧ tm.size = nt ∧ ∀ p ∈ lv, tm.getD p.1 undef = p.2
  le : nt ≤ 60000
  fn : ∃ f, P.funcs[fn]? = some f
def stOf (fr : Frame) (n : Nat) : Value := fr.tmps.getD n undef
def told (ρ : Env) (lv : List (Nat × AV)) : List (Nat × Value) := lv.map fun p => (p.1, p.2.ev ρ)
section
variable {P : Program} {ρ : Env} {fn : FuncId} {nt : Nat} {todo : List Item} {ds : List Deferred} {kind : CallKind} {lv : List (Nat × Value)} {fr : Frame}
theorem FAt.sub (h : FAt P fn nt todo ds kind lv fr) {lv' : List (Nat × Value)} (hs : ∀ p ∈ lv', p ∈ lv) : FAt P fn nt todo ds kind lv' fr := by
  obtain ⟨⟨tm, h1, h2, h3⟩, h4, h5⟩ := h
  exact ⟨⟨tm, h1, h2, fun p hp => h3 p (hs p hp)⟩, h4, h5⟩
theorem told_tmps {tm : Array Value} (hsz : tm.size = nt) (hle : nt ≤ 60000) {lA : List (Nat × AV)} (h : ∀ p ∈ told ρ lA, tm.getD p.1 undef = p.2) : TmpR ρ nt (tmpsOf nt (fun n => tm.getD n undef) lA) tm := by
  refine ⟨hsz, hle, fun n hn => ?_, fun n hn => ?_⟩
  · rw [tmpsOf_get hle, if_pos hn]
    have hg : tm[n]? = some (tm.getD n undef) := by
      rw [Array.getD_eq_getD_getElem?]
      rw [Array.getElem?_eq_getElem (by omega)]
      rfl
    rw [hg]
    cases e : look (fun a b => Nat.beq a b) n lA with
    | none => simp [AV.ev]
    | some a =>
      obtain ⟨x, hx, he⟩ := look_some e
      obtain rfl := Nat.eq_of_beq_eq_true he
      have := h (n, a.ev ρ) (List.mem_map.2 ⟨(n, a), hx, rfl⟩)
      dsimp only at this
      rw [this]
      rfl
  · rw [tmpsOf_get hle, if_neg (by omega)]
theorem FAt.rel (h : FAt P fn nt todo ds kind lv fr) (hk : plainK kind) (lA : List (Nat × AV)) (hl : told ρ lA = lv) {dA : List AD} (hd : dA.map (AD.ev ρ) = ds) : FrRel P ρ ⟨fn, nt, tmpsOf nt (stOf fr) lA, todo, dA, .run, kind⟩ fr := by
  obtain ⟨⟨tm, rfl, h2, h3⟩, h4, h5⟩ := h
  subst hl
  refine ⟨tm, todo, ⟨told_tmps h2 h4 h3, .inl hk, fun _ => rfl, h5⟩, ?_⟩
  unfold frameOf
  dsimp only
  rw [plain_at hk, hd]
  rfl
theorem zip_told {t : TT} : ∀ {live : List Nat} {p : Nat × Value}, p ∈ live.zip (AV.evs ρ (live.map fun n => t.get n)) → p.2 = (t.get p.1).ev ρ
  | [], p, h => by cases h
  | n :: l, p, h => by
    simp only [List.map_cons, AV.evs, List.zip_cons_cons, List.mem_cons] at h
    rcases h with rfl | h
    · rfl
    · exact zip_told h
theorem FAt.of {a : AFrame} {live : List Nat} {vals : List AV} {dA : List AD} (h : FrRel P ρ a fr) (s : frSeen a live = ⟨fn, nt, todo, dA, .run, kind, [], [], vals⟩) (hk : plainK kind) : FAt P fn nt todo (dA.map (AD.ev ρ)) kind (live.zip (AV.evs ρ vals)) fr := by
  obtain ⟨fn', nt', t, todo', ds', mode, kind'⟩ := a
  simp only [frSeen, Seen.mk.injEq] at s
  obtain ⟨rfl, rfl, rfl, rfl, rfl, rfl, _, _, rfl⟩ := s
  obtain ⟨tm, td, i, rfl⟩ := h
  refine ⟨⟨tm, ?_, i.tmps.size, fun p hp => ?_⟩, i.tmps.le, i.fn⟩
  · have ht : td = todo' := i.todo rfl
    unfold frameOf
    dsimp only
    rw [plain_at hk, ht]
    rfl
  · rw [zip_told hp]
    exact i.tmps.getD p.1
end
end Go.Proofs.YtojifefdokekpaaDoor.SX
set_option maxRecDepth 100000
set_option linter.unusedVariables false
set_option linter.unusedSectionVars false
set_option linter.unusedSimpArgs false
namespace Go.Proofs.YtojifefdokekpaaDoor
open Go.Proofs.YtojifefdokekpaaDoor.SX Go.Conc
noncomputable def OO (bs : List (BE × Bool)) (mem : List (AA × AV)) : Orc := { bs := bs, mem := mem, fns := fns, ext := ext }
noncomputable abbrev XX (bs : List (BE × Bool)) (mem : List (AA × AV)) : Ext := ext? Tryd.prog (OO bs mem) tab
noncomputable def runZ (bs : List (BE × Bool)) (mem : List (AA × AV)) (n : Nat) (ks : List Nat) (c : ACfg) : M ACfg := chunkTo? Tryd.prog (OO bs mem) (XX bs mem) noSums 4000 n ks c
noncomputable def cfg (cur : AFrame) (callers : List AFrame) (hp : List (Nat × ABlk)) : ACfg := ⟨cur, callers, ⟨hp, 100, 5192296858534827628530496329220096⟩⟩
noncomputable def KZ (base : Nat) : Ctx := ⟨Tryd.prog, OO [] [], fun n => base ≤ n, fun _ => True, True, fun _ _ => False⟩
theorem KZ_good (base : Nat) : (KZ base).Good := ⟨fun _ _ _ => trivial, fun _ _ _ _ => trivial, fun _ _ _ h => h.elim, fun _ _ => trivial, trivial, fun _ _ => trivial, fun _ _ _ _ => trivial⟩
abbrev Go1 (base : Nat) (g : Goroutine) (w : World) (Q : Goroutine → World → Prop) : Prop := Walk Tryd.prog true (DK (KZ base)) Q 0 g w
theorem nodup_of {α β γ : Type} {f : α → β} {g : α → γ} : ∀ {l : List α}, (l.map g).Nodup → (∀ x ∈ l, ∀ y ∈ l, f x = f y → g x = g y) → (l.map f).Nodup
  | [], _, _ => List.nodup_nil
  | x :: l, h, e => by
    rw [List.map_cons, List.nodup_cons] at h ⊢
    refine ⟨fun hx => ?_, nodup_of h.2 fun a ha b hb => e a (List.mem_cons_of_mem _ ha) b (List.mem_cons_of_mem _ hb)⟩
    obtain ⟨y, hy, h2⟩ := List.mem_map.1 hx
    exact h.1 (List.mem_map.2 ⟨y, hy, e y (List.mem_cons_of_mem _ hy) x (List.mem_cons_self ..) h2⟩)
theorem find_of {α : Type} : ∀ {l : List (Nat × α)} {i : Nat} {b : α}, (l.map (·.1)).Nodup → (i, b) ∈ l → Go.Proofs.YtojifefdokekpaaDoor.SX.look (fun a b => Nat.beq a b) i l = some b
  | p :: l, i, b, h, hm => by
    rw [List.map_cons, List.nodup_cons] at h
    have e1 : Go.Proofs.YtojifefdokekpaaDoor.SX.look (fun a b => Nat.beq a b) i (p :: l) = Bool.rec (Go.Proofs.YtojifefdokekpaaDoor.SX.look (fun a b => Nat.beq a b) i l) (some p.2) (Nat.beq i p.1) := rfl
    rw [e1]
    rcases List.mem_cons.1 hm with e | hm
    · subst e
      have : Nat.beq i i = true := Nat.beq_refl i
      rw [this]
    · have : Nat.beq i p.1 = false := by
        cases e : Nat.beq i p.1 with
        | false => rfl
        | true =>
          have := Nat.eq_of_beq_eq_true e
          exact absurd (List.mem_map.2 ⟨_, hm, this⟩) h.1
      rw [this]
      exact find_of h.2 hm
abbrev Role := Nat × Nat
abbrev Lay := Role → Option (Nat × Blk)
structure On (base : Nat) (W0 : World) (L : Lay) (w : World) : Prop where
  heap : HeapIs Tryd.prog base w L
  keeps : Keeps (fun n => base ≤ n) W0 w
  le : base ≤ W0.heap.size
def MemO (L : Lay) (drop : List Role) (base : Nat) (W0 : World) (ρ : Env) (p : AA × AV) : Prop :=
  (∃ r k, L r = some ((p.1.ev ρ).block, k) ∧ r ∉ drop ∧ k.cell (p.1.ev ρ).off = some (p.2.ev ρ)) ∨ ((p.1.ev ρ).block < base ∧ W0.cell? (p.1.ev ρ) = some (p.2.ev ρ))
def ownL (ρ : Env) (w : World) (pre : List (Role × Nat × ABlk)) (b : Nat) : Prop := w.heap.size ≤ b ∨ ∃ x ∈ pre, ρ.b x.2.1 = b
def PreL (L : Lay) (ρ : Env) (pre : List (Role × Nat × ABlk)) : Prop := ∀ x ∈ pre, ∃ k, L x.1 = some (ρ.b x.2.1, k) ∧ AbsIs Tryd.prog ρ x.2.2 k
def postL (ρ : Env) (post : List (Role × Nat × ABlk)) : List (Role × Nat × Blk) := post.map fun x => (x.1, ρ.b x.2.1, blkOf ρ x.2.2)
abbrev FA := FAt Tryd.prog
def FAts (ρ : Env) (lives : FuncId → List Nat) : List Seen → List Frame → Prop
  | [], [] => True
  | V :: Vs, f :: fs => FA V.fn V.nt V.todo (V.defers.map (AD.ev ρ)) V.kind ((lives V.fn).zip (AV.evs ρ V.vals)) f ∧ FAts ρ lives Vs fs
  | _, _ => False
def isRun : AMode → Bool
  | .run => true
  | _ => false
def isPlain : CallKind → Bool
  | .normal => true
  | .deferred => true
  | _ => false
theorem plain_is {k : CallKind} (h : isPlain k = true) : plainK k := by
  cases k <;> first | exact .inl rfl | exact .inr rfl | cases h
def tellable (V : Seen) : Bool := isRun V.mode && isPlain V.kind
theorem fats_of {ρ : Env} {lives : FuncId → List Nat} : ∀ {cl : List AFrame} {Vs : List Seen} {fs : List Frame}, cl.map (fun fr => frSeen fr (lives fr.fn)) = Vs → FrRels Tryd.prog ρ cl fs → Vs.all tellable = true → FAts ρ lives Vs fs
  | [], _, fs, h, hr, _ => by
    subst h
    cases fs with
    | nil => exact trivial
    | cons a b => exact hr.elim
  | a :: cl, _, fs, h, hr, ha => by
    subst h
    cases fs with
    | nil => exact hr.elim
    | cons f fs =>
      simp only [List.map_cons, List.all_cons, Bool.and_eq_true] at ha
      refine ⟨?_, fats_of rfl hr.2 ha.2⟩
      have h1 := ha.1
      simp only [tellable, Bool.and_eq_true] at h1
      refine FAt.of (live := lives a.fn) hr.1 ?_ (plain_is h1.2)
      have hm : a.mode = .run := by
        have := h1.1
        cases e : a.mode <;> first | rfl | (simp [frSeen, e, isRun] at this)
      simp only [frSeen, hm]
theorem fats_none {ρ : Env} {lives : FuncId → List Nat} {fs : List Frame} (h : FAts ρ lives [] fs) : fs = [] := by
  cases fs with
  | nil => rfl
  | cons a b => exact h.elim
section
variable {base : Nat} {W0 w : World} {L : Lay} {main : Bool}
theorem cell_keep {w w' : World} {own : Nat → Prop} (kp : Keeps own w w') {a : Addr} {v : Value} (h : w.cell? a = some v) (hb : ¬ own a.block) : w'.cell? a = some v := by
  unfold World.cell? at h ⊢
  rw [kp.heap _ hb]
  exact h
theorem On.new (o : On base W0 L w) {n : Nat} (h : w.heap.size ≤ n) : base ≤ n := by
  have := o.le
  have := o.keeps.size
  omega
theorem MemO.to (o : On base W0 L w) {drop : List Role} {ρ : Env} {p : AA × AV} (h : MemO L drop base W0 ρ p) : MemL L drop w base ρ p := by
  rcases h with h | ⟨h1, h2⟩
  · exact .inl h
  · exact .inr ⟨h1, cell_keep o.keeps h2 (Nat.not_le.2 h1)⟩
theorem own_ok (o : On base W0 L w) {ρ : Env} {pre : List (Role × Nat × ABlk)} (hpre : PreL L ρ pre) : ∀ b, ownL ρ w pre b → base ≤ b := by
  rintro b (hb | ⟨x, hx, rfl⟩)
  · exact o.new hb
  · obtain ⟨k, h1, h2⟩ := hpre x hx
    exact o.heap.ge _ _ _ h1
theorem mem_ok (o : On base W0 L w) {ρ : Env} {pre : List (Role × Nat × ABlk)} (hpre : PreL L ρ pre) {p : AA × AV} (hm : MemL L (pre.map (·.1)) w base ρ p) : ¬ ownL ρ w pre (p.1.ev ρ).block ∧ w.cell? (p.1.ev ρ) = some (p.2.ev ρ) := by
  rcases hm with ⟨r, k, h1, h2, h3⟩ | ⟨h1, h2⟩
  · refine ⟨?_, ?_⟩
    · rintro (hb | ⟨x, hx, e⟩)
      · exact Nat.not_lt.2 hb (o.heap.lt h1)
      · obtain ⟨k', h4, _⟩ := hpre x hx
        rw [e] at h4
        exact h2 (List.mem_map.2 ⟨x, hx, (o.heap.inj _ _ _ _ _ h1 h4).symm⟩)
    · have := o.heap.cell h1 h3
      rw [AA.ev_none ρ p.1]
      exact this
  · refine ⟨fun hb => ?_, h2⟩
    have := own_ok o hpre _ hb
    omega
theorem pre_nodup (H : HeapIs Tryd.prog base w L) {ρ : Env} {pre : List (Role × Nat × ABlk)} (hpre : PreL L ρ pre) (hnd : (pre.map (·.1)).Nodup) : ((pre.map (·.2)).map fun p => ρ.b p.1).Nodup := by
  rw [List.map_map]
  refine nodup_of hnd fun x hx y hy e => ?_
  obtain ⟨k, h1, _⟩ := hpre x hx
  obtain ⟨k', h2, _⟩ := hpre y hy
  have e' : ρ.b x.2.1 = ρ.b y.2.1 := e
  rw [e'] at h1
  exact H.inj _ _ _ _ _ h1 h2
theorem left_ok {w' : World} {O : Orc} {ρ ρ' : Env} {hh : AH} (o : On base W0 L w) {pre post : List (Role × Nat × ABlk)} (hpre : PreL L ρ pre) (kp : Keeps (ownL ρ w pre) w w') (Rl : Rel ((KZ base).sub O (ownL ρ w pre) fun _ _ => False) ρ' hh w') (hp : hh.hp = post.map (·.2)) (hnd : (post.map (·.2.1)).Nodup) :
    HeapIs Tryd.prog base w' (relay L (pre.map (·.1)) (postL ρ' post)) := by
  have hfind : ∀ x ∈ post, findB x.2.1 hh.hp = some x.2.2 := fun x hx => by
    rw [hp]
    exact find_of (by rw [List.map_map]; exact hnd) (List.mem_map.2 ⟨x, hx, rfl⟩)
  have hblk : ∀ x ∈ post, ∃ o, w'.heap[ρ'.b x.2.1]? = some o ∧ x.2.2.is Tryd.prog ρ' o := fun x hx => Rl.blk _ _ (hfind x hx)
  refine o.heap.relay kp (fun r b k e hr hb => ?_) (fun y hy => ?_) ?_
  · rcases hb with hb | ⟨x, hx, e'⟩
    · exact Nat.not_lt.2 hb (o.heap.lt e)
    · obtain ⟨k', h1, _⟩ := hpre x hx
      rw [e'] at h1
      exact hr (List.mem_map.2 ⟨x, hx, (o.heap.inj _ _ _ _ _ e h1).symm⟩)
  · obtain ⟨x, hx, rfl⟩ := List.mem_map.1 hy
    obtain ⟨q, h1, h2⟩ := hblk x hx
    have hown : ownL ρ w pre (ρ'.b x.2.1) := by
      rcases Rl.own' _ _ (hfind x hx) with h3 | ⟨hc, h3⟩
      · exact h3
      · exact (h3.elim False.elim False.elim)
    exact ⟨is_blk h1 h2, hown, own_ok o hpre _ hown⟩
  · rw [postL, List.map_map]
    refine nodup_of hnd fun x hx y hy e => ?_
    exact Rl.inj _ _ _ _ (hfind x hx) (hfind y hy) e
theorem walkZ {fr : Frame} {frs cs : List Frame} (o : On base W0 L w) (pre post : List (Role × Nat × ABlk)) {bs : List (BE × Bool)} {mem : List (AA × AV)} {n : Nat} {ks : List Nat} {cur : AFrame} {callers : List AFrame} {live : List Nat} {lives : FuncId → List Nat} {V : Seen} {Vs : List Seen}
    (hv : seeF (runZ bs mem n ks (cfg cur callers (pre.map (·.2)))) live lives = some (V, Vs)) (hV : V.hp = post.map (·.2)) (hV' : (V :: Vs).all tellable = true) (hl : cfgLow 100 (cfg cur callers (pre.map (·.2))) = true) (hO : (OO bs mem).low 100 = true) {ρ : Env} (hf : FrRel Tryd.prog ρ cur fr) (hfs : FrRels Tryd.prog ρ callers frs)
    (hb : ∀ p ∈ bs, p.1.ev ρ = p.2) (hm : ∀ p ∈ mem, MemO L (pre.map (·.1)) base W0 ρ p) (hpre : PreL L ρ pre) (hnd : (pre.map (·.1)).Nodup) (hnd' : (post.map (·.2.1)).Nodup) :
    Go1 base (G fr (frs ++ cs)) w fun g' w' => ∃ ρ' fr' frs', g' = G fr' (frs' ++ cs) ∧ On base W0 (relay L (pre.map (·.1)) (postL ρ' post)) w' ∧ Agree (Below 100) ρ ρ' ∧ FA V.fn V.nt V.todo (V.defers.map (AD.ev ρ')) V.kind (live.zip (AV.evs ρ' V.vals)) fr' ∧ FAts ρ' lives Vs frs' := by
  obtain ⟨cl, hs, hcl⟩ := seeF_ok hv
  have hown := own_ok o hpre
  have Gd2 := sub_good (K := KZ base) (O := OO bs mem) (own := ownL ρ w pre) (still := fun _ _ => False) (KZ_good base) hown
  have W := piece (K := KZ base) (main := true) (own := ownL ρ w pre) (still := fun _ _ => False) (O := OO bs mem) (cs := cs) (KZ_good base) hown ⟨fns_ok, ext_facts, mixed⟩ (ext_ok Gd2 (.inl trivial) tab_facts) noSums_ok hs hl rfl hO hf hfs
    (rel_blocks (fun p hp => by
        obtain ⟨x, hx, rfl⟩ := List.mem_map.1 hp
        obtain ⟨k, h1, h2⟩ := hpre x hx
        exact abs_is (o.heap.at' _ _ _ h1) h2) (fun p hp => by
        obtain ⟨x, hx, rfl⟩ := List.mem_map.1 hp
        exact .inr ⟨x, hx, rfl⟩) (pre_nodup o.heap hpre hnd) (fun p hp n hn => hn.elim False.elim False.elim) ⟨hb, (fun p hp => by cases hp), fun p hp => ⟨(mem_ok o hpre ((hm p hp).to o)).1, (mem_ok o hpre ((hm p hp).to o)).2, fun s => ⟨trivial, fun b n s e => by cases e⟩⟩⟩ (fun n hn => .inl hn) fun b n h => h.elim False.elim False.elim)
  refine Walk.weaken (fun g' w' hd => ?_) W
  obtain ⟨ρ', c', fr', frs', C⟩ := hd
  have hcal : c'.callers = cl := congrArg Seen.callers C.seen
  have hhp : c'.h.hp = V.hp := congrArg Seen.hp C.seen
  have hRel := C.rel
  have hfr := C.fr
  have hfrs := C.frs
  have hseen := C.seen
  obtain ⟨cur', callers', hh⟩ := c'
  dsimp only at hcal hhp hRel hfr hfrs
  subst hcal
  simp only [List.all_cons, Bool.and_eq_true] at hV'
  have h1 := hV'.1
  simp only [tellable, Bool.and_eq_true] at h1
  have hmode : V.mode = .run := by
    have := h1.1
    cases e : V.mode <;> first | rfl | (simp [e, isRun] at this)
  refine ⟨ρ', fr', frs', C.gor, ⟨left_ok o hpre C.keeps hRel (hhp.trans hV) hnd', o.keeps.trans (C.keeps.mono hown), o.le⟩, C.agree, ?_, fats_of hcl hfrs hV'.2⟩
  refine FAt.of hfr ?_ (plain_is h1.2)
  unfold Seen.under seenOf at hseen
  unfold frSeen
  simp only [Seen.mk.injEq] at hseen ⊢
  exact ⟨hseen.1, hseen.2.1, hseen.2.2.1, hseen.2.2.2.1, hseen.2.2.2.2.1.trans hmode, hseen.2.2.2.2.2.1, trivial, trivial, hseen.2.2.2.2.2.2.2.2⟩
end
end Go.Proofs.YtojifefdokekpaaDoor
set_option maxRecDepth 100000
set_option linter.unusedVariables false
set_option linter.unusedSectionVars false
set_option linter.unusedSimpArgs false
namespace Go.Proofs.YtojifefdokekpaaDoor
open Go.Proofs.YtojifefdokekpaaDoor.SX Go.Conc
def Goes (g : Goroutine) (w : World) (Q : Goroutine → World → Prop) : Prop := ∃ g' w', Steps Tryd.prog (loneG g w) (loneG g' w') ∧ Q g' w'
abbrev Fresh (w w' : World) : Prop := Keeps (fun n => w.heap.size ≤ n) w w'
def Ans (f : FuncId) (args : Array Value) (w : World) (Q : Value → World → Prop) : Prop := Calls Tryd.prog f args w fun e w' => ∃ v, e = .returned v ∧ Q v w'
section
variable {g : Goroutine} {w : World} {Q R : Goroutine → World → Prop}
theorem Goes.here (h : Q g w) : Goes g w Q := ⟨g, w, .refl _ _, h⟩
theorem Goes.trans (h : Goes g w Q) (k : ∀ g' w', Q g' w' → Goes g' w' R) : Goes g w R := by
  obtain ⟨g1, w1, s1, q1⟩ := h
  obtain ⟨g2, w2, s2, q2⟩ := k _ _ q1
  exact ⟨g2, w2, s1.trans s2, q2⟩
theorem Goes.mono (h : Goes g w Q) (k : ∀ g' w', Q g' w' → R g' w') : Goes g w R := by
  obtain ⟨g1, w1, s1, q1⟩ := h
  exact ⟨g1, w1, s1, k _ _ q1⟩
theorem Goes.of {base : Nat} (h : Go1 base g w Q) : Goes g w Q := walk_steps h
theorem Goes.one {g' : Goroutine} {w' : World} {es : Array Event} (hr : g.status = .running) (hs : stepG Tryd.prog true g w = .go g' w' es) (hq : Q g' w') : Goes g w Q := ⟨g', w', .head (step_loneG hr hs) (.refl _ _), hq⟩
end
theorem Fresh.refl (w : World) : Fresh w w := Keeps.refl _ _
theorem Fresh.trans {w w1 w2 : World} (h : Fresh w w1) (h2 : Fresh w1 w2) : Fresh w w2 := Keeps.trans h (h2.mono fun n hn => Nat.le_trans h.size hn)
theorem Fresh.cell {w w' : World} (h : Fresh w w') {a : Addr} {v : Value} (hc : w.cell? a = some v) : w'.cell? a = some v := cell_keep h hc fun hh => by
  have := cellLt hc
  omega
theorem Ans.mono {f : FuncId} {args : Array Value} {w : World} {Q R : Value → World → Prop} (h : Ans f args w Q) (k : ∀ v w', Q v w' → R v w') : Ans f args w R := by
  intro cs
  obtain ⟨e, w', fr, ⟨v, h1, h2⟩, h3⟩ := h cs
  exact ⟨e, w', fr, ⟨v, h1, k _ _ h2⟩, h3⟩
noncomputable def hN : AH := ⟨[], 100, 5192296858534827628530496329220096⟩
noncomputable def opA (bs : List (BE × Bool)) (mem : List (AA × AV)) (t : TT) (ops : Array Oper) (i : Nat) : M (AN × AH) := match ops[i]? with
  | some o => op? Tryd.prog (OO bs mem) (XX bs mem) hN (evalA t) o
  | none => .error "no operation"
noncomputable def wantA (bs : List (BE × Bool)) (mem : List (AA × AV)) (t : TT) (ops : Array Oper) (i : Nat) : M Bool := match ops[i]? with
  | some o => wantedA (OO bs mem) ops t o
  | none => .error "no operation"
noncomputable def dstOf (ops : Array Oper) (i : Nat) : Option Nat := (ops[i]?).bind (·.dst)
noncomputable def lowT (bs : List (BE × Bool)) (mem : List (AA × AV)) (t : TT) : Bool := cfgLow 100 ⟨⟨0, 0, t, [], [], .run, .normal⟩, [], hN⟩ && (OO bs mem).low 100
theorem put_getD {tm : Array Value} {d n : Nat} {v : Value} : (tm.setIfInBounds d v).getD n undef = if n = d ∧ d < tm.size then v else tm.getD n undef := by
  rw [Array.getD_eq_getD_getElem?, Array.getD_eq_getD_getElem?, Array.getElem?_setIfInBounds]
  by_cases h : d = n
  · subst h
    by_cases h2 : d < tm.size
    · simp [h2]
    · simp [h2]
  · have : ¬ (n = d) := fun e => h e.symm
    simp [h, this]
abbrev lvPut (d : Nat) (v : Value) (lv : List (Nat × Value)) : List (Nat × Value) := (d, v) :: lv.filter fun p => !(p.1 == d)
section
variable {w : World} {cs : List Frame} {fr : Frame} {fn nt i d : Nat} {ops : Array Oper} {l : List Nat} {k : List Item} {ds : List Deferred} {kind : CallKind} {lv : List (Nat × Value)} {lA : List (Nat × AV)} {bs : List (BE × Bool)} {mem : List (AA × AV)} {ρ : Env}
theorem put_fa {tm : Array Value} {v : Value} (h2 : tm.size = nt) (h3 : ∀ p ∈ lv, tm.getD p.1 undef = p.2) (h4 : nt ≤ 60000) (h5 : ∃ f, Tryd.prog.funcs[fn]? = some f) (hdn : d < nt) :
    FA fn nt (.inRegion ops l :: k) ds kind (lvPut d v lv) ((mkF fn kind).at ((⟨tm, ds⟩ : Act).put (some d) v) (.inRegion ops l :: k)) := by
  refine ⟨⟨tm.setIfInBounds d v, rfl, by rw [Array.size_setIfInBounds]; exact h2, fun p hp => ?_⟩, h4, h5⟩
  rw [put_getD]
  rcases List.mem_cons.1 hp with rfl | hp
  · rw [if_pos ⟨rfl, by omega⟩]
  · obtain ⟨q1, q2⟩ := List.mem_filter.1 hp
    have : ¬ (p.1 = d) := by simpa using q2
    rw [if_neg fun e => this e.1]
    exact h3 p q1
theorem op_run {tm : Array Value} (h2 : tm.size = nt) (h4 : nt ≤ 60000) (ht : ∀ p ∈ told ρ lA, tm.getD p.1 undef = p.2) {b : Bool} (hw : wantA bs mem (tmpsOf nt (fun n => tm.getD n undef) lA) ops i = .ok b) (hlow : lowT bs mem (tmpsOf nt (fun n => tm.getD n undef) lA) = true)
    (hb : ∀ p ∈ bs, p.1.ev ρ = p.2) (hm : ∀ p ∈ mem, w.cell? (p.1.ev ρ) = some (p.2.ev ρ)) :
    ∃ o, ops[i]? = some o ∧ Region.wanted o (yielded ops tm) = b ∧ ∀ {n : AN}, opA bs mem (tmpsOf nt (fun n => tm.getD n undef) lA) ops i = .ok (n, hN) → (∀ v, n ≠ .panic v) → ∃ nx w' ρ', (execOp (⟨tm, ds⟩ : Act).eval o).run Tryd.prog w = .ok nx w' ∧ Fresh w w' ∧ Agree (Below 100) ρ ρ' ∧ n.is ρ' nx := by
  have T := told_tmps (ρ := ρ) h2 h4 ht
  unfold wantA at hw
  unfold opA
  cases ho : ops[i]? with
  | none => rw [ho] at hw; cases hw
  | some o =>
    rw [ho] at hw
    simp only [lowT, Bool.and_eq_true] at hlow
    let K := (KZ w.heap.size).sub (OO bs mem) (fun n => w.heap.size ≤ n) fun _ _ => False
    have hown : ∀ n, w.heap.size ≤ n → (KZ w.heap.size).own n := fun n hn => hn
    have Gd2 : K.Good := sub_good (KZ_good w.heap.size) hown
    have R : Rel K ρ hN w := rel_blocks (fun p hp => by cases hp) (fun p hp => by cases hp) List.nodup_nil (fun p hp => by cases hp) ⟨hb, (fun p hp => by cases hp), fun p hp => ⟨fun hh => by
      have := cellLt (hm p hp)
      have : w.heap.size ≤ (p.1.ev ρ).block := hh
      omega, hm p hp, fun s => ⟨trivial, fun b n s e => by cases e⟩⟩⟩ (fun n hn => hn) fun b n h => h.elim False.elim False.elim
    have I := cfgLow_in (K := K) (c := ⟨⟨0, 0, tmpsOf nt (fun n => tm.getD n undef) lA, [], [], .run, .normal⟩, [], hN⟩) hlow.1 rfl hlow.2
    refine ⟨o, rfl, wantedA_ok (K := K) R T hw, fun {n} he hn => ?_⟩
    have N := op?_ok (K := K) Gd2 ⟨fns_ok, ext_facts, mixed⟩ (ext_ok Gd2 (.inl trivial) tab_facts) R I.ids (evalA_in I.cur.tmps) he
    have hev : (⟨tm, ds⟩ : Act).eval = fun x => (evalA (tmpsOf nt (fun n => tm.getD n undef) lA) x).ev ρ := funext fun x => evalA_ev T _ x
    rw [hev]
    have W := N.run (E := fun _ _ => False) (Q := fun nx w' => ∃ ρ', Fresh w w' ∧ Agree (Below 100) ρ ρ' ∧ n.is ρ' nx) (fun nx w' ⟨ρ', a1, a2, a3, a4⟩ => ⟨ρ', a3, a1, a4⟩) (fun v hv => (hn v hv).elim)
    have q1 : ((execOp (fun x => (evalA (tmpsOf nt (fun n => tm.getD n undef) lA) x).ev ρ) o).run Tryd.prog w).goes (fun nx w' => ∃ ρ', Fresh w w' ∧ Agree (Below 100) ρ ρ' ∧ n.is ρ' nx) (fun _ _ => False) := (wq_run W).1
    generalize (execOp (fun x => (evalA (tmpsOf nt (fun n => tm.getD n undef) lA) x).ev ρ) o).run Tryd.prog w = r at q1
    cases r with
    | ok nx w' =>
      obtain ⟨ρ', a1, a2, a3⟩ := q1
      exact ⟨nx, w', ρ', rfl, a1, a2, a3⟩
    | halt x w' => cases x <;> exact q1.elim
theorem stR_unwanted' {P : Program} {b : Frame} {a : Act} {o : Oper} {rest : List Nat} (ho : ops[i]? = some o) (hw : Region.wanted o (yielded ops a.tmps) = false) :
    step P (lone (b.at a (.inRegion ops (i :: rest) :: k)) cs w) = .next (lone (b.at (a.put ((ops[i]?).bind (·.dst)) undef) (.inRegion ops rest :: k)) cs w) :=
  step_op_skip (by simp [ho, hw])
theorem op_skip (hf : FA fn nt (.inRegion ops (i :: l) :: k) ds kind lv fr) (hl : ∀ p ∈ told ρ lA, p ∈ lv) (hw : ∀ st, wantA bs mem (tmpsOf nt st lA) ops i = .ok false) (hlow : ∀ st, lowT bs mem (tmpsOf nt st lA) = true)
    (hb : ∀ p ∈ bs, p.1.ev ρ = p.2) (hm : ∀ p ∈ mem, w.cell? (p.1.ev ρ) = some (p.2.ev ρ)) (hd : dstOf ops i = some d) (hdn : d < nt) :
    Goes (G fr cs) w fun g' w' => ∃ fr', g' = G fr' cs ∧ Fresh w w' ∧ FA fn nt (.inRegion ops l :: k) ds kind (lvPut d undef lv) fr' := by
  obtain ⟨⟨tm, rfl, h2, h3⟩, h4, h5⟩ := hf
  obtain ⟨o, ho, hwt, _⟩ := op_run (ds := ds) (w := w) h2 h4 (fun p hp => h3 p (hl p hp)) (hw _) (hlow _) hb hm
  have s := stR_unwanted' (P := Tryd.prog) (b := mkF fn kind) (a := ⟨tm, ds⟩) (rest := l) (k := k) (cs := cs) (w := w) ho hwt
  refine ⟨_, w, .head s (.refl _ _), _, rfl, Fresh.refl w, ?_⟩
  rw [show (ops[i]?).bind (·.dst) = some d from hd]
  exact put_fa h2 h3 h4 h5 hdn
theorem op_value (hf : FA fn nt (.inRegion ops (i :: l) :: k) ds kind lv fr) (hk : plainK kind) {a : AV} (hl : ∀ p ∈ told ρ lA, p ∈ lv) (hw : ∀ st, wantA bs mem (tmpsOf nt st lA) ops i = .ok true) (he : ∀ st, opA bs mem (tmpsOf nt st lA) ops i = .ok (.value a, hN)) (hlow : ∀ st, lowT bs mem (tmpsOf nt st lA) = true)
    (hb : ∀ p ∈ bs, p.1.ev ρ = p.2) (hm : ∀ p ∈ mem, w.cell? (p.1.ev ρ) = some (p.2.ev ρ)) (hd : dstOf ops i = some d) (hdn : d < nt) (ha : AV.low 100 a = true) :
    Goes (G fr cs) w fun g' w' => ∃ fr', g' = G fr' cs ∧ Fresh w w' ∧ FA fn nt (.inRegion ops l :: k) ds kind (lvPut d (a.ev ρ) lv) fr' := by
  obtain ⟨⟨tm, rfl, h2, h3⟩, h4, h5⟩ := hf
  obtain ⟨o, ho, hwt, run⟩ := op_run (ds := ds) (w := w) h2 h4 (fun p hp => h3 p (hl p hp)) (hw _) (hlow _) hb hm
  obtain ⟨nx, w', ρ', r1, fr1, Ag, e⟩ := run (he _) (fun v h => by cases h)
  have e : nx = .value (a.ev ρ') := e
  rw [AV.ev_agree Ag a (AV.low_in a ha)] at e
  subst e
  have hg := stepG_op (P := Tryd.prog) (b := mkF fn kind) (k := k) (cs := cs) (w := w) (rest := l) (a := ⟨tm, ds⟩) ho hwt
  have s : step Tryd.prog (lone ((mkF fn kind).at ⟨tm, ds⟩ (.inRegion ops (i :: l) :: k)) cs w) = .next (lone ((mkF fn kind).at ((⟨tm, ds⟩ : Act).put ((ops[i]?).bind (·.dst)) (a.ev ρ)) (.inRegion ops l :: k)) cs w') := by
    refine step_lone_go ?_
    rw [hg, ← Frame.finish_at]
    simp [stepG.apply, r1]
  refine ⟨_, w', .head s (.refl _ _), _, rfl, fr1, ?_⟩
  rw [show (ops[i]?).bind (·.dst) = some d from hd]
  exact put_fa h2 h3 h4 h5 hdn
theorem op_call (hf : FA fn nt (.inRegion ops (i :: l) :: k) ds kind lv fr) {f : FuncId} {args : List AV} {Q : Value → World → Prop} (hl : ∀ p ∈ told ρ lA, p ∈ lv) (hw : ∀ st, wantA bs mem (tmpsOf nt st lA) ops i = .ok true) (he : ∀ st, opA bs mem (tmpsOf nt st lA) ops i = .ok (.enter f args, hN)) (hlow : ∀ st, lowT bs mem (tmpsOf nt st lA) = true)
    (hb : ∀ p ∈ bs, p.1.ev ρ = p.2) (hm : ∀ p ∈ mem, w.cell? (p.1.ev ρ) = some (p.2.ev ρ)) (hd : dstOf ops i = some d) (hdn : d < nt) (ha : AV.lows 100 args = true) (h : ∀ w', Fresh w w' → Ans f (AV.evs ρ args).toArray w' Q) :
    Goes (G fr cs) w fun g' w' => ∃ fr' v, g' = G fr' cs ∧ Q v w' ∧ FA fn nt (.inRegion ops l :: k) ds kind (lvPut d v lv) fr' := by
  obtain ⟨⟨tm, rfl, h2, h3⟩, h4, h5⟩ := hf
  obtain ⟨o, ho, hwt, run⟩ := op_run (ds := ds) (w := w) h2 h4 (fun p hp => h3 p (hl p hp)) (hw _) (hlow _) hb hm
  obtain ⟨nx, w', ρ', r1, fr1, Ag, e⟩ := run (he _) (fun v h => by cases h)
  have e : nx = .enter f (AV.evs ρ' args).toArray := e
  rw [AV.evs_agree Ag args (AV.lows_in args ha)] at e
  subst e
  have hg := stepG_op (P := Tryd.prog) (b := mkF fn kind) (k := k) (cs := cs) (w := w) (rest := l) (a := ⟨tm, ds⟩) ho hwt
  have s : step Tryd.prog (lone ((mkF fn kind).at ⟨tm, ds⟩ (.inRegion ops (i :: l) :: k)) cs w) = .next (lone (Frame.enter Tryd.prog f (AV.evs ρ args).toArray .normal) ((mkF fn kind).at ⟨tm, ds⟩ (.inRegion ops (i :: l) :: k) :: cs) w') := by
    refine step_lone_go ?_
    rw [hg]
    simp [stepG.apply, r1, Frame.at]
  obtain ⟨en, w2, fr2, ⟨v, rfl, hq⟩, st, _, lv'⟩ := h w' fr1 ((mkF fn kind).at ⟨tm, ds⟩ (.inRegion ops (i :: l) :: k) :: cs)
  have s2 := step_leave_returned (c := (mkF fn kind).at ⟨tm, ds⟩ (.inRegion ops (i :: l) :: k)) (cs := cs) lv'
  rw [Frame.finish_at, show (ops[i]?).bind (·.dst) = some d from hd] at s2
  exact ⟨_, w2, .head s (Steps.trans st (.head s2 (.refl _ _))), _, v, rfl, hq, put_fa h2 h3 h4 h5 hdn⟩
end
end Go.Proofs.YtojifefdokekpaaDoor
set_option maxRecDepth 100000
set_option linter.unusedVariables false
set_option linter.unusedSectionVars false
set_option linter.unusedSimpArgs false
namespace Go.Proofs.YtojifefdokekpaaDoor
open Go.Proofs.YtojifefdokekpaaDoor.SX Go.Conc
def Leav (f : FuncId) (fr : Frame) (w : World) (v : Value) : Prop := fr.fn = f ∧ fr.leaving Tryd.prog w (.returned v)
theorem ans_of {f : FuncId} {args : Array Value} {w : World} {Q : Value → World → Prop} (h : ∀ cs, Goes (G (Frame.enter Tryd.prog f args .normal) cs) w fun g' w' => ∃ fr' v, g' = G fr' cs ∧ Leav f fr' w' v ∧ Q v w') : Ans f args w Q := by
  intro cs
  obtain ⟨g', w', st, fr', v, rfl, ⟨h1, h2⟩, hq⟩ := h cs
  exact ⟨.returned v, w', fr', ⟨v, rfl, hq⟩, st, h1, h2⟩
section
variable {w : World} {cs : List Frame} {fr : Frame} {fn nt : Nat} {k : List Item} {lv : List (Nat × Value)} {lA : List (Nat × AV)} {bs : List (BE × Bool)} {mem : List (AA × AV)} {ρ : Env}
theorem leave_at (hf : FA fn nt (.code .ret :: k) [] .normal lv fr) {a : AV} (hl : ∀ p ∈ told ρ lA, p ∈ lv) (he : ∀ st, results? Tryd.prog (OO bs mem) hN fn (tmpsOf nt st lA) = .ok a)
    (hb : ∀ p ∈ bs, p.1.ev ρ = p.2) (hm : ∀ p ∈ mem, w.cell? (p.1.ev ρ) = some (p.2.ev ρ)) :
    Goes (G fr cs) w fun g' w' => ∃ fr', g' = G fr' cs ∧ w' = w ∧ Leav fn fr' w' (a.ev ρ) := by
  obtain ⟨⟨tm, rfl, h2, h3⟩, h4, h5⟩ := hf
  have T := told_tmps (ρ := ρ) h2 h4 (fun p hp => h3 p (hl p hp))
  let K := (KZ w.heap.size).sub (OO bs mem) (fun n => w.heap.size ≤ n) fun _ _ => False
  have hown : ∀ n, w.heap.size ≤ n → (KZ w.heap.size).own n := fun n hn => hn
  have Gd2 : K.Good := sub_good (KZ_good w.heap.size) hown
  have R : Rel K ρ hN w := rel_blocks (fun p hp => by cases hp) (fun p hp => by cases hp) List.nodup_nil (fun p hp => by cases hp) ⟨hb, (fun p hp => by cases hp), fun p hp => ⟨fun hh => by
    have := cellLt (hm p hp)
    have : w.heap.size ≤ (p.1.ev ρ).block := hh
    omega, hm p hp, fun s => ⟨trivial, fun b n s e => by cases e⟩⟩⟩ (fun n hn => hn) fun b n h => h.elim False.elim False.elim
  obtain ⟨f, hf, _, run⟩ := results?_ok (K := K) Gd2 (he (fun n => tm.getD n undef))
  have W := run (E := fun _ _ => False) R T (Q := fun x w' => x = a.ev ρ ∧ w' = w) ⟨rfl, rfl⟩
  have q1 : ((results f tm).run Tryd.prog w).goes (fun x w' => x = a.ev ρ ∧ w' = w) (fun _ _ => False) := (wq_run W).1
  refine ⟨_, w, .head step_ret (.refl _ _), _, rfl, rfl, rfl, rfl, rfl, rfl, f, hf, ?_⟩
  show (results f tm).run Tryd.prog w = .ok (a.ev ρ) w
  generalize (results f tm).run Tryd.prog w = r at q1
  cases r with
  | ok x w' => obtain ⟨rfl, rfl⟩ := q1; rfl
  | halt x w' => cases x <;> exact q1.elim
end
theorem enter1 {f nt : Nat} {t : TT} {body : Code} (h : enterA Tryd.prog f [.opq 0] .normal = .ok ⟨f, nt, t, [.code body], [], .run, .normal⟩) (hs : frSeen (⟨f, nt, t, [.code body], [], .run, .normal⟩ : AFrame) [0] = ⟨f, nt, [.code body], [], .run, .normal, [], [], [.opq 0]⟩) (x : Value) :
    FA f nt [.code body] [] .normal [(0, x)] (Frame.enter Tryd.prog f #[x] .normal) := by
  let ρ : Env := mkE [] [] [(0, x)]
  exact FAt.of (live := [0]) (vals := [.opq 0]) (dA := []) (enterA_ok (U := fun _ => True) h (.inl rfl) ⟨trivial, trivial⟩ (ρ := ρ)).1 hs (.inl rfl)
theorem enter2 {f nt : Nat} {t : TT} {body : Code} (h : enterA Tryd.prog f [.opq 0, .opq 1] .normal = .ok ⟨f, nt, t, [.code body], [], .run, .normal⟩) (hs : frSeen (⟨f, nt, t, [.code body], [], .run, .normal⟩ : AFrame) [0, 1] = ⟨f, nt, [.code body], [], .run, .normal, [], [], [.opq 0, .opq 1]⟩) (x y : Value) :
    FA f nt [.code body] [] .normal [(0, x), (1, y)] (Frame.enter Tryd.prog f #[x, y] .normal) := by
  let ρ : Env := mkE [] [] [(0, x), (1, y)]
  exact FAt.of (live := [0, 1]) (vals := [.opq 0, .opq 1]) (dA := []) (enterA_ok (U := fun _ => True) h (.inl rfl) ⟨trivial, trivial, trivial⟩ (ρ := ρ)).1 hs (.inl rfl)
theorem enter4 {f nt : Nat} {t : TT} {body : Code} (h : enterA Tryd.prog f [.opq 0, .opq 1, .opq 2, .opq 3] .normal = .ok ⟨f, nt, t, [.code body], [], .run, .normal⟩) (hs : frSeen (⟨f, nt, t, [.code body], [], .run, .normal⟩ : AFrame) [0, 1, 2, 3] = ⟨f, nt, [.code body], [], .run, .normal, [], [], [.opq 0, .opq 1, .opq 2, .opq 3]⟩) (x y z u : Value) :
    FA f nt [.code body] [] .normal [(0, x), (1, y), (2, z), (3, u)] (Frame.enter Tryd.prog f #[x, y, z, u] .normal) := by
  let ρ : Env := mkE [] [] [(0, x), (1, y), (2, z), (3, u)]
  exact FAt.of (live := [0, 1, 2, 3]) (vals := [.opq 0, .opq 1, .opq 2, .opq 3]) (dA := []) (enterA_ok (U := fun _ => True) h (.inl rfl) ⟨trivial, trivial, trivial, trivial, trivial⟩ (ρ := ρ)).1 hs (.inl rfl)
theorem enter0 {f nt : Nat} {t : TT} {body : Code} (h : enterA Tryd.prog f [] .normal = .ok ⟨f, nt, t, [.code body], [], .run, .normal⟩) :
    FA f nt [.code body] [] .normal [] (Frame.enter Tryd.prog f #[] .normal) := by
  let ρ : Env := mkE [] [] []
  exact FAt.of (live := []) (vals := []) (dA := []) (enterA_ok (U := fun _ => True) h (.inl rfl) trivial (ρ := ρ)).1 rfl (.inl rfl)
section
variable {ι : Type} [DecidableEq ι] {L : ι → Option (Nat × Blk)} {d : List ι} {new : List (ι × Nat × Blk)}
theorem relay_in (hnd : (new.map (·.1)).Nodup) {r : ι} {x : Nat × Blk} (h : (r, x) ∈ new) : relay L d new r = some x := by
  unfold relay
  cases e : new.find? (fun y => decide (y.1 = r)) with
  | none =>
    have := List.find?_eq_none.1 e _ h
    simp at this
  | some y =>
    have h1 := List.mem_of_find?_eq_some e
    have h2 := List.find?_some e
    simp only [decide_eq_true_eq] at h2
    have := inj_of_nodup (f := fun z : ι × Nat × Blk => z.1) hnd h1 h h2
    subst this
    rfl
end
theorem on_start (w : World) : On w.heap.size w (fun _ => none) w := ⟨⟨fun r b k e => (by cases e), fun r r' b k k' e => (by cases e), fun r b k e => (by cases e)⟩, Keeps.refl _ _, Nat.le_refl _⟩
section
variable {base : Nat} {W0 w : World} {L : Lay} {cs : List Frame} {fr : Frame}
theorem On.next {w' : World} (o : On base W0 L w) (h : Fresh w w') : On base W0 L w' :=
  ⟨o.heap.keepN h, o.keeps.trans (h.mono fun n hn => o.new hn), o.le⟩
theorem pieceF {bs : List (BE × Bool)} {mem : List (AA × AV)} {n : Nat} {ks : List Nat} {cur : AFrame} {live : List Nat} {V : Seen} {post : List (Nat × ABlk)}
    (hv : seeF (runZ bs mem n ks (cfg cur [] [])) live (fun _ => []) = some (V, [])) (hV : V.hp = post) (hV' : tellable V = true) (hl : cfgLow 100 (cfg cur [] []) = true) (hO : (OO bs mem).low 100 = true) {ρ : Env} (hf : FrRel Tryd.prog ρ cur fr)
    (hb : ∀ p ∈ bs, p.1.ev ρ = p.2) (hm : ∀ p ∈ mem, w.cell? (p.1.ev ρ) = some (p.2.ev ρ)) (hnd' : (post.map (·.1)).Nodup) :
    Goes (G fr cs) w fun g' w' => ∃ ρ' fr', g' = G fr' cs ∧ Fresh w w' ∧ Agree (Below 100) ρ ρ' ∧ FA V.fn V.nt V.todo (V.defers.map (AD.ev ρ')) V.kind (live.zip (AV.evs ρ' V.vals)) fr' ∧ (∀ x ∈ post, w.heap.size ≤ ρ'.b x.1 ∧ (blkOf ρ' x.2).at Tryd.prog w' (ρ'.b x.1)) := by
  have W := walkZ (cs := cs) (frs := []) (callers := []) (L := fun _ => none) (lives := fun _ => []) (Vs := []) (on_start w) [] (post.map fun x => ((0, x.1), x.1, x.2)) hv (by rw [hV, List.map_map]; simp [Function.comp_def]) (by simpa using hV') hl hO hf trivial hb (fun p hp => .inr ⟨cellLt (hm p hp), hm p hp⟩) (fun x hx => by cases hx) List.nodup_nil (by rw [List.map_map]; exact hnd')
  refine (Goes.of W).mono fun g' w' hd => ?_
  obtain ⟨ρ', fr', frs', rfl, o', Ag, f', fs'⟩ := hd
  obtain rfl := fats_none fs'
  refine ⟨ρ', fr', rfl, o'.keeps, Ag, f', fun x hx => ?_⟩
  have hL : relay (fun _ => none) (([] : List (Role × Nat × ABlk)).map (·.1)) (postL ρ' (post.map fun x => (((0, x.1) : Role), x.1, x.2))) (0, x.1) = some (ρ'.b x.1, blkOf ρ' x.2) := by
    refine relay_in ?_ ?_
    · have e : (postL ρ' (post.map fun x => (((0, x.1) : Role), x.1, x.2))).map (·.1) = (post.map (·.1)).map fun n => ((0, n) : Role) := by
        simp [postL, List.map_map, Function.comp_def]
      rw [e]
      exact List.Pairwise.map _ (fun a b hab => by simpa using hab) hnd'
    · rw [postL, List.map_map]
      exact List.mem_map.2 ⟨x, hx, rfl⟩
  exact ⟨o'.heap.ge _ _ _ hL, o'.heap.at' _ _ _ hL⟩
end
end Go.Proofs.YtojifefdokekpaaDoor
set_option maxRecDepth 100000
set_option linter.unusedVariables false
set_option linter.unusedSimpArgs false
namespace Go.Proofs.YtojifefdokekpaaDoor
open Go.Proofs.YtojifefdokekpaaDoor.SX Go.Conc
theorem wrapN {x : Int} (h : -9223372036854775808 ≤ x ∧ x ≤ 9223372036854775807) : IntKind.wrap .i64 x = x := IntWalk.i64_in _ h
def iV (n : Int) : Value := .int .i64 n
def ptrV (b : Nat) : Value := .pointer (some ⟨b, 0, none⟩)
def nilV : Value := .slice none 0 0
def slV (a o n c : Nat) : Value := .slice (some ⟨a, o, none⟩) n c
def v (n : Nat) : IE := .var n
noncomputable def i64 (e : IE) : AV := .int .i64 e
noncomputable def ptr0 (b : Nat) : AV := .ptr (some ⟨.dyn b, .lit 0⟩)
noncomputable def nilP : AV := .ptr none
noncomputable def nilA : AV := .slice none (.lit 0) (.lit 0)
noncomputable def TB : AV := .bool (.lit true)
noncomputable def FB : AV := .bool (.lit false)
noncomputable def sl5 : AV := .slice (some ⟨.dyn 50, v 53⟩) (v 51) (v 52)
noncomputable def brk (b o i : Nat) : AA := ⟨.dyn b, .plus (.tn (v o)) (.tn (v i))⟩
noncomputable def noL : FuncId → List Nat := fun _ => []
theorem brk_ev {ρ : Env} {b o i O I : Nat} (ho : ρ.i o = (O : Int)) (hi : ρ.i i = (I : Int)) : (brk b o i).ev ρ = ⟨ρ.b b, O + I, none⟩ := by
  show (⟨ρ.b b, ((((ρ.i o).toNat : Nat) : Int) + (((ρ.i i).toNat : Nat) : Int)).toNat, none⟩ : Addr) = _
  rw [ho, hi]
  rfl
theorem blk_cell {w : World} {b e : Nat} {cs : List Value} (h : (Blk.obj e cs).at Tryd.prog w b) {i : Nat} {x : Value} (hx : cs[i]? = some x) : w.cell? ⟨b, i, none⟩ = some x := ObjAt.cell h hx
structure NumsAt (w : World) (s : Value) (l : List Int) : Prop where
  ex : (s = nilV ∧ l = []) ∨ ∃ A o c, s = slV A o l.length c ∧ l.length ≤ c ∧ ∀ i n, l[i]? = some n → w.cell? ⟨A, o + i, none⟩ = some (iV n)
inductive ErrAt (w : World) : Value → List Int → Nat → Int → Prop
  | nil (n : Int) : ErrAt w .nilIface [] 0 n
  | failed (A : Nat) (n : Int) (h : w.cell? ⟨A, 0, none⟩ = some (iV n)) : ErrAt w (.iface 40 (ptrV A)) [] 1 n
  | cancelled (A : Nat) (n : Int) (h : w.cell? ⟨A, 0, none⟩ = some (iV n)) : ErrAt w (.iface 41 (ptrV A)) [] 2 n
  | late (A : Nat) (n : Int) (h : w.cell? ⟨A, 0, none⟩ = some (iV n)) : ErrAt w (.iface 42 (ptrV A)) [] 3 n
  | panic (A : Nat) (n : Int) (h : w.cell? ⟨A, 0, none⟩ = some (.iface 2 (iV n))) : ErrAt w (.iface 43 (ptrV A)) [] 4 n
  | plain (A o : Nat) (n : Int) (h : w.cell? ⟨A, o, none⟩ = some (.string "plain".toUTF8)) : ErrAt w (.iface 117 (.pointer (some ⟨A, o, none⟩))) [] 5 n
  | at0 (A : Nat) (n : Int) (h : w.cell? ⟨A, 0, none⟩ = some (iV n)) (h1 : w.cell? ⟨A, 1, none⟩ = some .nilIface) : ErrAt w (.iface 44 (ptrV A)) [] 6 n
  | errno (n : Int) : ErrAt w (.iface 29 (iV n)) [] 7 n
  | at' (A : Nat) (x : Int) (e : Value) (l : List Int) (k : Nat) (n : Int) (h : w.cell? ⟨A, 0, none⟩ = some (iV x)) (h1 : w.cell? ⟨A, 1, none⟩ = some e) (hk : k ≠ 0) (he : ErrAt w e l k n) : ErrAt w (.iface 44 (ptrV A)) (x :: l) k n
theorem NumsAt.keep {w w' : World} {s : Value} {l : List Int} (h : NumsAt w s l) (k : Fresh w w') : NumsAt w' s l := by
  rcases h.ex with h | ⟨A, o, c, h1, h2, h3⟩
  · exact ⟨.inl h⟩
  · exact ⟨.inr ⟨A, o, c, h1, h2, fun i n hi => k.cell (h3 i n hi)⟩⟩
theorem ErrAt.keepBut {w w' : World} {own : Nat → Prop} (k : Keeps own w w') (hc : ∀ (a : Addr) x, w.cell? a = some x → ¬ own a.block) {e : Value} {l : List Int} {kd : Nat} {n : Int} (h : ErrAt w e l kd n) : ErrAt w' e l kd n := by
  have c : ∀ {a : Addr} {x : Value}, w.cell? a = some x → w'.cell? a = some x := fun h => cell_keep k h (hc _ _ h)
  induction h with
  | nil n => exact .nil n
  | failed A n h => exact .failed A n (c h)
  | cancelled A n h => exact .cancelled A n (c h)
  | late A n h => exact .late A n (c h)
  | panic A n h => exact .panic A n (c h)
  | plain A o n h => exact .plain A o n (c h)
  | at0 A n h h1 => exact .at0 A n (c h) (c h1)
  | errno n => exact .errno n
  | at' A x e l k n h h1 hk he ih => exact .at' A x e l k n (c h) (c h1) hk ih
theorem ErrAt.keep {w w' : World} (k : Fresh w w') {e : Value} {l : List Int} {kd : Nat} {n : Int} (h : ErrAt w e l kd n) : ErrAt w' e l kd n :=
  h.keepBut k fun a x hx hh => by
    have := cellLt hx
    omega
theorem ErrAt.is {w : World} {e : Value} {l : List Int} {kd : Nat} {n : Int} (h : ErrAt w e l kd n) (hk : kd ≠ 0) : ∃ t p, e = .iface t p := by
  cases h with
  | nil n => exact (hk rfl).elim
  | _ => exact ⟨_, _, rfl⟩
end Go.Proofs.YtojifefdokekpaaDoor
set_option maxRecDepth 100000
set_option linter.unusedVariables false
set_option linter.unusedSimpArgs false
namespace Go.Proofs.YtojifefdokekpaaDoor
open Go.Proofs.YtojifefdokekpaaDoor.SX Go.Conc
noncomputable def mkQ (l : List Nat) : Code := pc (bodyOf Tryd.f5) l
noncomputable def mkT : List Item := [.code (mkQ [1,1,1,0,1,0,0]), .inLoop (mkQ [1,1,1,0,1,0,0]), .inBlock 1, .code (mkQ [1,1,1,1])]
noncomputable def mkF (t : List Item) (l : List (Nat × AV)) (st : Nat → Value) : AFrame := ⟨5, 73, tmpsOf 73 st l, t, [], .run, .normal⟩
noncomputable def mkS (z : Bool) : AV := Bool.rec sl5 nilA z
noncomputable def mkL (z : Bool) : IE := Bool.rec (.op .sub .i64 (.tn (v 51)) (.lit 1)) (.lit (-1)) z
noncomputable def mkX (z : Bool) (k : Nat) : ABlk := .cells [i64 (.lit (Int.ofNat k)), i64 (v 2), mkS z] 24
noncomputable def mkM : List (AA × AV) := [(⟨.glob 0, .lit 0⟩, .opq 60)]
noncomputable def mkE0 (z : Bool) (k : Nat) (st : Nat → Value) : AFrame := mkF [.code (bodyOf Tryd.f5)] [(0, .agg [i64 (.lit (Int.ofNat k)), i64 (v 2), mkS z])] st
noncomputable def mkB : Nat → List (Nat × ABlk)
  | 1 => [(101, .cells [i64 (v 2)] 49)]
  | 2 => [(101, .cells [i64 (v 2)] 51)]
  | 3 => [(101, .cells [i64 (v 2)] 53)]
  | 4 => [(101, .cells [.iface 2 (i64 (v 2))] 55)]
  | 6 => [(101, .cells [i64 (v 2), .nilIface] 57)]
  | _ => []
noncomputable def mkV : Nat → AV
  | 0 => .nilIface
  | 1 => .iface 40 (ptr0 101)
  | 2 => .iface 41 (ptr0 101)
  | 3 => .iface 42 (ptr0 101)
  | 4 => .iface 43 (ptr0 101)
  | 5 => .opq 60
  | 6 => .iface 44 (ptr0 101)
  | _ => .iface 29 (i64 (v 2))
def mkN : Nat → Nat
  | 0 => 71 | 1 => 42 | 2 => 48 | 3 => 54 | 4 => 61 | 5 => 62 | 6 => 72 | _ => 76
noncomputable def mkK (k : Nat) : List Nat := (mkB k).map (·.1) ++ [100]
theorem mkIn (z : Bool) {k : Nat} (hk : k < 8) (st : Nat → Value) : seeF (runZ [] mkM (mkN k) (mkK k) (cfg (mkE0 z k st) [] [])) [1, 3, 4] noL = some (⟨5, 73, mkT, [], .run, .normal, [], mkB k ++ [(100, mkX z k)], [ptr0 100, mkV k, i64 (mkL z)]⟩, []) := by
  rcases (by omega : k = 0 ∨ k = 1 ∨ k = 2 ∨ k = 3 ∨ k = 4 ∨ k = 5 ∨ k = 6 ∨ k = 7) with rfl | rfl | rfl | rfl | rfl | rfl | rfl | rfl <;> cases z <;> kernel_rfl
theorem mkInLow (z : Bool) {k : Nat} (hk : k < 8) (st : Nat → Value) : cfgLow 100 (cfg (mkE0 z k st) [] []) = true := by
  cases z <;> kernel_rfl
noncomputable def mkR (t : Nat) (st : Nat → Value) : AFrame := mkF mkT [(1, ptr0 61), (3, .iface t (.opq 60)), (4, i64 (v 4))] st
noncomputable def mkRb : List (BE × Bool) := [(.cmp .geq (v 4) (.lit 0), true), (.cmp .lss (v 4) (.lit 0), false), (.cmp .geq (v 4) (.tn (v 51)), false), (.cmp .leq (.lit 0) (v 4), true), (.cmp .lss (v 4) (.tn (v 51)), true)]
noncomputable def mkRm : List (AA × AV) := [(⟨.dyn 61, .lit 2⟩, sl5), (brk 50 53 4, i64 (v 5))]
theorem mkRound (t : Nat) (st : Nat → Value) : seeF (runZ mkRb mkRm 33 [100] (cfg (mkR t st) [] [])) [1, 3, 4] noL = some (⟨5, 73, mkT, [], .run, .normal, [], [(100, .cells [i64 (v 5), .iface t (.opq 60)] 57)], [ptr0 61, .iface 44 (ptr0 100), i64 (.op .sub .i64 (v 4) (.lit 1))]⟩, []) := by kernel_rfl
theorem mkRoundLow (t : Nat) (st : Nat → Value) : cfgLow 100 (cfg (mkR t st) [] []) = true := by kernel_rfl
noncomputable def mkD (st : Nat → Value) : AFrame := mkF mkT [(1, ptr0 61), (3, .opq 60), (4, i64 (v 4))] st
theorem mkEnd (st : Nat → Value) : seeF (runZ [(.cmp .geq (v 4) (.lit 0), false)] [] 17 [] (cfg (mkD st) [] [])) [2] noL = some (⟨5, 73, [.code .ret], [], .run, .normal, [], [], [.opq 60]⟩, []) := by kernel_rfl
theorem mkEndLow (st : Nat → Value) : cfgLow 100 (cfg (mkD st) [] []) = true := by kernel_rfl
end Go.Proofs.YtojifefdokekpaaDoor
set_option maxRecDepth 100000
set_option linter.unusedVariables false
set_option linter.unusedSimpArgs false
namespace Go.Proofs.YtojifefdokekpaaDoor
open Go.Proofs.YtojifefdokekpaaDoor.SX Go.Conc
noncomputable def entT (f : FuncId) (args : List AV) : TT := ((enterA Tryd.prog f args .normal).toOption.map (·.tmps)).getD .leaf
def hdV (z : Bool) (A o n c : Nat) : Value := match z with
  | false => slV A o n c
  | true => nilV
def PlainAt (w : World) : Prop := ∃ A o, w.cell? ⟨0, 0, none⟩ = some (.iface 117 (.pointer (some ⟨A, o, none⟩))) ∧ w.cell? ⟨A, o, none⟩ = some (.string "plain".toUTF8)
theorem PlainAt.keep {w w' : World} (h : PlainAt w) (k : Fresh w w') : PlainAt w' := by
  obtain ⟨A, o, h1, h2⟩ := h
  exact ⟨A, o, k.cell h1, k.cell h2⟩
def errV (k : Nat) (n : Int) (s : Value) : Value := .agg #[iV k, iV n, s]
abbrev F5 (t : List Item) (lv : List (Nat × Value)) (fr : Frame) : Prop := FA 5 73 t [] .normal lv fr
theorem ent5 : enterA Tryd.prog 5 [.opq 0] .normal = .ok ⟨5, 73, entT 5 [.opq 0], [.code (bodyOf Tryd.f5)], [], .run, .normal⟩ := by kernel_rfl
section
variable {w : World} {cs : List Frame} {fr : Frame} {k : Nat} {n : Int} {s e : Value} {l : List Int}
theorem nums_form (h : NumsAt w s l) : ∃ (z : Bool) (A o c : Nat), s = hdV z A o l.length c ∧ (z = true → l = []) ∧ (l.length ≤ c ∨ z = true) ∧ ∀ i n, l[i]? = some n → w.cell? ⟨A, o + i, none⟩ = some (iV n) := by
  rcases h.ex with ⟨h1, h2⟩ | ⟨A, o, c, h1, h2, h3⟩
  · exact ⟨true, 0, 0, 0, h1, fun _ => h2, .inr rfl, fun i n hi => by rw [h2] at hi; cases hi⟩
  · exact ⟨false, A, o, c, h1, fun h => (by cases h), .inl h2, h3⟩
theorem mk_in (hp : PlainAt w) (h : NumsAt w s l) (hk : k < 8) (hl : l.length ≤ 1000000) (hf : F5 [.code (bodyOf Tryd.f5)] [(0, errV k n s)] fr) :
    Goes (G fr cs) w fun g' w' => ∃ fr' X e, g' = G fr' cs ∧ Fresh w w' ∧ w'.cell? ⟨X, 2, none⟩ = some s ∧ ErrAt w' e [] k n ∧ F5 mkT [(1, ptrV X), (3, e), (4, iV (l.length - 1))] fr' := by
  obtain ⟨z, A, o, c, rfl, hz, hc, he⟩ := nums_form h
  obtain ⟨B, Bo, p1, p2⟩ := hp
  obtain ⟨ρ, hρ⟩ : ∃ ρ : Env, ρ = mkE [(2, n), (51, l.length), (52, c), (53, o)] [(50, A)] [(60, .iface 117 (.pointer (some ⟨B, Bo, none⟩)))] := ⟨_, rfl⟩
  have es : (mkS z).ev ρ = hdV z A o l.length c := by subst hρ; cases z <;> rfl
  refine (pieceF (ρ := ρ) (mkIn z hk (stOf fr)) rfl rfl (mkInLow z hk _) (by kernel_rfl) (hf.rel (.inl rfl) [(0, .agg [i64 (.lit (Int.ofNat k)), i64 (v 2), mkS z])] ?_ rfl) (fun p hp => by cases hp) (fun p hp => ?_) ?_).mono fun g' w' hd => ?_
  · show [(0, Value.agg (AV.evs ρ [i64 (.lit (Int.ofNat k)), i64 (v 2), mkS z]).toArray)] = _
    simp only [AV.evs, es]
    subst hρ
    rfl
  · obtain rfl := List.mem_singleton.1 hp
    subst hρ
    exact p1
  · rcases (by omega : k = 0 ∨ k = 1 ∨ k = 2 ∨ k = 3 ∨ k = 4 ∨ k = 5 ∨ k = 6 ∨ k = 7) with rfl | rfl | rfl | rfl | rfl | rfl | rfl | rfl <;> exact of_decide_eq_true (by kernel_rfl)
  · obtain ⟨ρ', fr', rfl, fw, Ag, f1, bl⟩ := hd
    have hX := (bl (100, mkX z k) (List.mem_append_right _ (List.mem_singleton.2 rfl))).2
    have i2 : ρ'.i 2 = n := (Ag.i 2 (by decide)).trans (by subst hρ; rfl)
    have i51 : ρ'.i 51 = l.length := (Ag.i 51 (by decide)).trans (by subst hρ; rfl)
    have es' : (mkS z).ev ρ' = hdV z A o l.length c := by rw [AV.ev_agree Ag (mkS z) (by cases z <;> exact AV.low_in _ (by kernel_rfl)), es]
    have elen : (mkL z).ev ρ' = (l.length : Int) - 1 := by
      cases z with
      | false =>
        show iop .sub .i64 (((ρ'.i 51).toNat : Nat) : Int) 1 = _
        rw [i51]
        exact wrapN (by omega)
      | true =>
        rw [hz rfl]; rfl
    have hcell : ∀ {b : Nat × ABlk} {cs : List AV} {t : Nat} {i : Nat} {x : AV}, b ∈ mkB k → b.2 = .cells cs t → cs[i]? = some x → w'.cell? ⟨ρ'.b b.1, i, none⟩ = some (x.ev ρ') := fun {b cs t i x} hb e hx => by
      have := (bl b (List.mem_append_left _ hb)).2
      rw [e] at this
      exact blk_cell this (by rw [evs_get, hx]; rfl)
    refine ⟨fr', ρ'.b 100, (mkV k).ev ρ', rfl, fw, ?_, ?_, ?_⟩
    · have := blk_cell hX (i := 2) (x := (mkS z).ev ρ') rfl
      rw [this, es']
    · rcases (by omega : k = 0 ∨ k = 1 ∨ k = 2 ∨ k = 3 ∨ k = 4 ∨ k = 5 ∨ k = 6 ∨ k = 7) with rfl | rfl | rfl | rfl | rfl | rfl | rfl | rfl
      · exact .nil n
      · exact .failed _ n (by rw [← i2]; exact hcell (i := 0) (x := i64 (v 2)) (List.mem_singleton.2 rfl) rfl rfl)
      · exact .cancelled _ n (by rw [← i2]; exact hcell (i := 0) (x := i64 (v 2)) (List.mem_singleton.2 rfl) rfl rfl)
      · exact .late _ n (by rw [← i2]; exact hcell (i := 0) (x := i64 (v 2)) (List.mem_singleton.2 rfl) rfl rfl)
      · exact .panic _ n (by rw [← i2]; exact hcell (i := 0) (x := .iface 2 (i64 (v 2))) (List.mem_singleton.2 rfl) rfl rfl)
      · have : (mkV 5).ev ρ' = .iface 117 (.pointer (some ⟨B, Bo, none⟩)) := (congrFun Ag.v 60).trans (by subst hρ; rfl)
        rw [this]
        exact .plain B Bo n (fw.cell p2)
      · exact .at0 _ n (by rw [← i2]; exact hcell (i := 0) (x := i64 (v 2)) (List.mem_singleton.2 rfl) rfl rfl) (hcell (i := 1) (x := .nilIface) (List.mem_singleton.2 rfl) rfl rfl)
      · have : (mkV 7).ev ρ' = .iface 29 (iV n) := by rw [← i2]; rfl
        rw [this]
        exact .errno n
    · have e0 : [1, 3, 4].zip (AV.evs ρ' [ptr0 100, mkV k, i64 (mkL z)]) = [(1, ptrV (ρ'.b 100)), (3, (mkV k).ev ρ'), (4, iV (l.length - 1))] := by
        simp only [AV.evs, List.zip_cons_cons, List.zip_nil_left, ← elen]
        rfl
      rw [← e0]
      exact f1
theorem mk_round {X j : Nat} {x : Int} (h : NumsAt w s l) (hX : w.cell? ⟨X, 2, none⟩ = some s) (hj : l[j]? = some x) (hl : l.length ≤ 1000000) {l' : List Int} (he : ErrAt w e l' k n) (hk : k ≠ 0) (hf : F5 mkT [(1, ptrV X), (3, e), (4, iV j)] fr) :
    Goes (G fr cs) w fun g' w' => ∃ fr' e', g' = G fr' cs ∧ Fresh w w' ∧ ErrAt w' e' (x :: l') k n ∧ F5 mkT [(1, ptrV X), (3, e'), (4, iV (j - 1))] fr' := by
  obtain ⟨t, p, rfl⟩ := he.is hk
  obtain ⟨z, A, o, c, rfl, hz, hc, hel⟩ := nums_form h
  have hjl : j < l.length := (List.getElem?_eq_some_iff.1 hj).1
  obtain rfl : z = false := by
    cases z with
    | false => rfl
    | true => rw [hz rfl] at hjl; simp at hjl
  obtain ⟨ρ, hρ⟩ : ∃ ρ : Env, ρ = mkE [(4, j), (5, x), (51, l.length), (52, c), (53, o)] [(50, A), (61, X)] [(60, p)] := ⟨_, rfl⟩
  refine (pieceF (ρ := ρ) (mkRound t (stOf fr)) rfl rfl (mkRoundLow t _) (by kernel_rfl) (hf.rel (.inl rfl) [(1, ptr0 61), (3, .iface t (.opq 60)), (4, i64 (v 4))] (by subst hρ; rfl) rfl) (fun q hq => ?_) (fun q hq => ?_) ?_).mono fun g' w' hd => ?_
  · have e4 : ρ.i 4 = (j : Int) := by subst hρ; rfl
    have e51 : ρ.i 51 = (l.length : Int) := by subst hρ; rfl
    simp only [mkRb, List.mem_cons, List.not_mem_nil, or_false] at hq
    rcases hq with rfl | rfl | rfl | rfl | rfl
    · show decide (ρ.i 4 ≥ 0) = true
      rw [e4]; exact decide_eq_true (by omega)
    · show decide (ρ.i 4 < 0) = false
      rw [e4]; exact decide_eq_false (by omega)
    · show decide (ρ.i 4 ≥ (((ρ.i 51).toNat : Nat) : Int)) = false
      rw [e4, e51]; exact decide_eq_false (by omega)
    · show decide ((0 : Int) ≤ ρ.i 4) = true
      rw [e4]; exact decide_eq_true (by omega)
    · show decide (ρ.i 4 < (((ρ.i 51).toNat : Nat) : Int)) = true
      rw [e4, e51]; exact decide_eq_true (by omega)
  · simp only [mkRm, List.mem_cons, List.not_mem_nil, or_false] at hq
    rcases hq with rfl | rfl
    · subst hρ; exact hX
    · rw [brk_ev (O := o) (I := j) (by subst hρ; rfl) (by subst hρ; rfl)]
      have := hel j x hj
      subst hρ
      exact this
  · exact of_decide_eq_true (by kernel_rfl)
  · obtain ⟨ρ', fr', rfl, fw, Ag, f1, bl⟩ := hd
    have hB := (bl (100, .cells [i64 (v 5), .iface t (.opq 60)] 57) (List.mem_singleton.2 rfl)).2
    have i4 : ρ'.i 4 = j := (Ag.i 4 (by decide)).trans (by subst hρ; rfl)
    have i5 : ρ'.i 5 = x := (Ag.i 5 (by decide)).trans (by subst hρ; rfl)
    have v60 : ρ'.v 60 = p := (congrFun Ag.v 60).trans (by subst hρ; rfl)
    have b61 : ρ'.b 61 = X := (Ag.b 61 (by decide)).trans (by subst hρ; rfl)
    refine ⟨fr', .iface 44 (ptrV (ρ'.b 100)), rfl, fw, .at' _ _ _ _ _ _ ?_ ?_ hk (he.keep fw), ?_⟩
    · have := blk_cell hB (i := 0) (x := iV (ρ'.i 5)) rfl
      rwa [i5] at this
    · have := blk_cell hB (i := 1) (x := .iface t (ρ'.v 60)) rfl
      rwa [v60] at this
    · have e0 : [1, 3, 4].zip (AV.evs ρ' [ptr0 61, .iface 44 (ptr0 100), i64 (.op .sub .i64 (v 4) (.lit 1))]) = [(1, ptrV X), (3, .iface 44 (ptrV (ρ'.b 100))), (4, iV (j - 1))] := by
        show [(1, ptrV (ρ'.b 61)), (3, Value.iface 44 (ptrV (ρ'.b 100))), (4, iV (iop .sub .i64 (ρ'.i 4) 1))] = _
        rw [b61, i4, show iop .sub .i64 (j : Int) 1 = (j : Int) - 1 from wrapN (by omega)]
      rw [← e0]
      exact f1
theorem mk_loop {X : Nat} (h : NumsAt w s l) (hX : w.cell? ⟨X, 2, none⟩ = some s) (hl : l.length ≤ 1000000) (hk : k = 0 → l = []) : ∀ (j : Nat) {w1 : World} {fr : Frame} {e : Value}, j ≤ l.length → Fresh w w1 → ErrAt w1 e (l.drop j) k n → F5 mkT [(1, ptrV X), (3, e), (4, iV (j - 1))] fr →
    Goes (G fr cs) w1 fun g' w' => ∃ fr' v, g' = G fr' cs ∧ Leav 5 fr' w' v ∧ Fresh w w' ∧ ErrAt w' v l k n
  | 0, w1, fr, e, hj, fw, he, hf => by
    let ρ : Env := mkE [(4, -1)] [(61, X)] [(60, e)]
    refine (pieceF (ρ := ρ) (mkEnd (stOf fr)) rfl rfl (mkEndLow _) (by kernel_rfl) (hf.rel (.inl rfl) [(1, ptr0 61), (3, .opq 60), (4, i64 (v 4))] rfl rfl) (fun q hq => by obtain rfl := List.mem_singleton.1 hq; rfl) (fun q hq => by cases hq) List.nodup_nil).trans fun g' w' hd => ?_
    obtain ⟨ρ', fr', rfl, fw2, Ag, f1, bl⟩ := hd
    have v60 : ρ'.v 60 = e := congrFun Ag.v 60
    have f2 : F5 [.code .ret] [(2, e)] fr' := by rw [← v60]; exact f1
    refine (leave_at (ρ := mkE [] [] [(60, e)]) (lA := [(2, .opq 60)]) (bs := []) (mem := []) f2 (a := .opq 60) (fun p hp => hp) (fun st => by kernel_rfl) (fun q hq => by cases hq) (fun q hq => by cases hq)).mono fun g2 w2 hd2 => ?_
    obtain ⟨fr2, rfl, rfl, hL⟩ := hd2
    exact ⟨fr2, e, rfl, hL, fw.trans fw2, he.keep fw2⟩
  | j + 1, w1, fr, e, hj, fw, he, hf => by
    have hjl : l[j]? = some l[j] := List.getElem?_eq_getElem (by omega)
    have hk0 : k ≠ 0 := fun e => by rw [hk e] at hj; simp at hj
    have e0 : ((j + 1 : Nat) : Int) - 1 = (j : Int) := by omega
    rw [e0] at hf
    refine (mk_round (h.keep fw) (fw.cell hX) hjl hl he hk0 hf).trans fun g' w' hd => ?_
    obtain ⟨fr', e', rfl, fw2, he', f1⟩ := hd
    refine mk_loop h hX hl hk j (by omega) (fw.trans fw2) ?_ f1
    rwa [List.drop_eq_getElem_cons (by omega)]
theorem make_all (hp : PlainAt w) (h : NumsAt w s l) (hk : k < 8) (hk0 : k = 0 → l = []) (hl : l.length ≤ 1000000) : Ans 5 #[errV k n s] w fun v w' => Fresh w w' ∧ ErrAt w' v l k n := by
  refine ans_of fun cs => ?_
  refine (mk_in hp h hk hl (enter1 ent5 rfl _)).trans fun g' w' hd => ?_
  obtain ⟨fr', X, e, rfl, fw, hX, he, f1⟩ := hd
  refine (mk_loop (h.keep fw) hX hl hk0 l.length (Nat.le_refl _) (Fresh.refl _) (by rw [List.drop_length]; exact he) f1).mono fun g2 w2 hd2 => ?_
  obtain ⟨fr2, v, rfl, hL, fw2, he2⟩ := hd2
  exact ⟨fr2, v, rfl, hL, fw.trans fw2, he2⟩
end
end Go.Proofs.YtojifefdokekpaaDoor

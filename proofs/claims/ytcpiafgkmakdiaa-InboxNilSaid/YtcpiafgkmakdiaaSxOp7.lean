/-
  append and copy.
-/
import Derived.Test.YtcpiafgkmakdiaaSxOp6
set_option linter.unusedSectionVars false
set_option linter.unusedVariables false
set_option linter.unusedSimpArgs false
namespace Go.Proofs.Ytcpiafgkmakdiaa.SX
section
variable {K : Ctx} {ρ : Env} {h : AH} {w : World} {U : Nat → Prop}

/-- Stores into a block of the call's own, wherever they lie in it. -/
theorem wq_storeCells_arr (G : K.Good) {E : Value → World → Prop} {b : Nat} (ho : K.own b) (hns : ∀ n, ¬ K.still b n) {e : TypeId} : ∀ {l : List Value} {off j : Nat} {arr : Array Value} {w : World}, w.heap[b]? = some (.cells arr e (0, 0)) → off + j + l.length ≤ arr.size → (∀ v ∈ l, v.oneCell' = true) →
    ∀ {Q : Unit → World → Prop}, (∀ w' (arr' : Array Value), w'.heap[b]? = some (.cells arr' e (0, 0)) → (∀ n, n ≠ b → w'.heap[n]? = w.heap[n]?) → w'.heap.size = w.heap.size → w'.tape = w.tape → w'.os = w.os → w'.output = w.output →
      arr'.size = arr.size → (∀ n, n < off + j → arr'[n]? = arr[n]?) → (∀ n, n < l.length → arr'[off + j + n]? = l[n]?) → Q () w') → wq K.P K.Ev E (storeCells ⟨b, off, none⟩ l j) Q w := by
  intro l
  induction l with
  | nil => intro off j arr w hb hle _ Q hq; exact hq w arr hb (fun _ _ => rfl) rfl rfl rfl rfl rfl (fun _ _ => rfl) (fun n hn => by simp at hn)
  | cons v l ih =>
    intro off j arr w hb hle hone Q hq
    simp only [List.length_cons] at hle
    simp only [storeCells, wq_bind]
    rw [wq_store]
    have ha : (⟨b, off, none⟩ : Addr).add j = ⟨b, off + j, none⟩ := by unfold Addr.add; split <;> simp_all
    rw [ha]
    have hlt : off + j < arr.size := by omega
    refine ⟨hone v (by simp), ⟨_, (cell?_of hb).trans (Array.getElem?_eq_getElem hlt)⟩, frozen?_of hb, G.wr _ _ ho (hns _), ?_⟩
    have hb' : (w.setCell ⟨b, off + j, none⟩ v).heap[b]? = some (.cells (arr.setIfInBounds (off + j) v) e (0, 0)) := by
      rw [heap_setCell, if_pos rfl, hb]; rfl
    refine ih (arr := arr.setIfInBounds (off + j) v) hb' (by simp; omega) (fun u hu => hone u (List.mem_cons_of_mem _ hu)) ?_
    intro w' arr' q1 q2 q3 q4 q5 q6 q7 q8 q9
    refine hq w' arr' q1 (fun n hn => ?_) (q3.trans (size_setCell _ _ _)) q4 q5 q6 (by rw [q7]; simp) (fun n hn => ?_) (fun n hn => ?_)
    · rw [q2 n hn, heap_setCell, if_neg hn]
    · rw [q8 n (by omega), Array.getElem?_setIfInBounds_ne (by omega)]
    · cases n with
      | zero => rw [Nat.add_zero, q8 (off + j) (by omega)]; simp [hlt]
      | succ n =>
        have := q9 n (by simp at hn; omega)
        rw [List.getElem?_cons_succ, ← this]
        congr 1
        omega

theorem nextslice_small {need cap bytes : Nat} (h1 : cap < need) (h2 : need ≤ 1048576) (h3 : bytes ≤ 1024) : ¬ Builtin.nextslicecap need cap * bytes > 2 ^ 48 := by
  have := nextslicecap_le h1
  have h4 : Builtin.nextslicecap need cap * bytes ≤ 2097152 * 1024 := Nat.mul_le_mul (by omega) h3
  omega

theorem oneCells_ev {new : List AV} (h1 : new.all (·.oneCell?) = true) (ρ : Env) : ∀ v ∈ AV.evs ρ new, v.oneCell' = true := by
  rw [evs_map]
  intro v hv
  obtain ⟨a, ha, rfl⟩ := List.mem_map.1 hv
  exact oneCell_ev (List.all_eq_true.1 h1 a ha) ρ

theorem appArgs?_len {O : Orc} {size : Nat} {x : AV} {n : Nat} {new : List AV} (ha : appArgs? O h size x = .ok (n, new)) : new.length = n * size := by
  unfold appArgs? at ha
  split at ha
  · split at ha
    · cases ha; simp
    · cases ha
  · simp only [bind_ok, pure_ok] at ha
    obtain ⟨m, hm, l, hl, e⟩ := ha
    cases e
    exact loadN_length hl
  · split at ha
    · rename_i h1
      cases ha
      simp [h1]
    · cases ha
  · cases ha
theorem appArgs?_in (I : Ids K U h) {size : Nat} {x : AV} {n : Nat} {new : List AV} (ha : appArgs? K.O h size x = .ok (n, new)) : AV.Ins U new := by
  unfold appArgs? at ha
  split at ha
  · split at ha
    · cases ha; trivial
    · cases ha
  · simp only [bind_ok, pure_ok] at ha
    obtain ⟨m, hm, l, hl, e⟩ := ha
    cases e
    exact loadN_in I hl
  · split at ha
    · cases ha
      exact Ins_iff.2 fun a ha => by obtain ⟨c, _, rfl⟩ := List.mem_map.1 ha; trivial
    · cases ha
  · cases ha

theorem wq_lenOf {E : Value → World → Prop} {O : Orc} {size : Nat} {x : AV} {n : Nat} {new : List AV} (ha : appArgs? O h size x = .ok (n, new)) {Q : Nat → World → Prop} (hq : Q n w) : wq K.P K.Ev E (Builtin.lenOf (x.ev ρ)) Q w := by
  unfold appArgs? at ha
  split at ha
  · split at ha
    · cases ha; exact hq
    · cases ha
  · simp only [bind_ok, pure_ok] at ha
    obtain ⟨m, hm, l, hl, e⟩ := ha
    cases e
    obtain rfl := litNat?_ok hm
    exact hq
  · split at ha
    · cases ha; exact hq
    · cases ha
  · cases ha

theorem wq_firstCells (R : Rel K ρ h w) (G : K.Good) {E : Value → World → Prop} {size : Nat} {x : AV} {n : Nat} {new : List AV} (ha : appArgs? K.O h size x = .ok (n, new)) {Q : Array Value → World → Prop} (hq : Q (AV.evs ρ new).toArray w) :
    wq K.P K.Ev E (Builtin.firstCells size n (x.ev ρ)) Q w := by
  unfold appArgs? at ha
  split at ha
  · split at ha
    · cases ha; exact hq
    · cases ha
  · simp only [bind_ok, pure_ok] at ha
    obtain ⟨m, hm, l, hl, e⟩ := ha
    cases e
    simp only [AV.ev, Option.map_some, Builtin.firstCells, loadCells]
    exact loadN_sound R G hl (by simpa using hq)
  · split at ha
    · rename_i t h1
      cases ha
      simp only [AV.ev, Builtin.firstCells, wq_pure]
      have : (t.extract 0 t.size).data.map (fun b => Value.int .u8 b.toNat) = (AV.evs ρ (t.data.toList.map fun c => AV.int .u8 (.lit c.toNat))).toArray := by
        have e0 : t.extract 0 t.size = t := ByteArray.extract_zero_size
        rw [e0, evs_map, List.map_map]
        apply Array.toList_inj.1
        simp [AV.ev, IE.ev]
      rw [this]; exact hq
    · cases ha
  · cases ha

/-- A new row in the place of whatever was there. -/
theorem allocRow?_sound (R : Rel K ρ h w) (I : Ids K U h) {old : Option Nat} {cs : List AV} {elem : TypeId} {len : Nat} {v : AV} {h' : AH} (ha : allocRow? h old cs elem len = .ok (v, h')) (hc : AV.Ins U cs) :
    v.In (plus U h.nb h'.nb) ∧ Grows K U h h' ∧ ∀ (m : Nat) (c : Nat) (w' : World) (arr : Array Value) (rest : List Value) (i : TypeInfo), Keeps K.own w w' → w'.heap[m]? = some (.cells arr elem (0, 0)) → (K.own m ∧ ∀ n, ¬ K.still m n) → Rel K ρ (match old with | some i => { h with hp := dropB i h.hp } | none => h) w' →
      (∀ j b, findB j (match old with | some i => dropB i h.hp | none => h.hp) = some b → ρ.b j ≠ m) → arr.toList = AV.evs ρ cs ++ rest → K.P.info? elem = some i → arr.size = c * i.size →
      After K U ρ w h' (fun ρ' => v.ev ρ' = .slice (some ⟨m, 0, none⟩) len c) w' := by
  obtain ⟨hp, nb, lim⟩ := h
  simp only [allocRow?] at ha
  split at ha
  · rename_i hlt
    cases ha
    have hnu : ¬ U nb := I.fresh _ (Nat.le_refl _) hlt
    have hin : ABlk.In (plus U nb (nb + 1)) (.row cs elem (.var nb)) := ⟨AV.Ins.mono plus_sub _ hc, .inr ⟨Nat.le_refl _, Nat.lt_succ_self _⟩⟩
    refine ⟨⟨⟨.inr ⟨Nat.le_refl _, Nat.lt_succ_self _⟩, trivial⟩, trivial, .inr ⟨Nat.le_refl _, Nat.lt_succ_self _⟩⟩, ?_, ?_⟩
    · cases old with
      | none => exact ⟨Nat.le_succ _, rfl, I.ins hlt hin⟩
      | some i => exact ⟨Nat.le_succ _, rfl, (I.drop i).ins hlt hin⟩
    · intro m c w' arr rest inf hk hm ho R' hne harr hinf hsz
      have hf : (ABlk.row cs elem (.var nb)).fits K.P (ρ.upd nb m c) arr := ⟨rest, inf, by rw [AV.evs_agree (agree_upd hnu) cs hc]; exact harr, hinf, by simpa [IE.ev, Env.upd] using hsz⟩
      refine ⟨ρ.upd nb m c, agree_upd hnu, ?_, hk, ?_⟩
      · cases old with
        | none => exact Rel.ins R' I hlt hm ho.1 hne ho.2 hf
        | some i => exact Rel.ins R' (I.drop i) hlt hm ho.1 hne ho.2 hf
      · simp [AV.ev, AA.ev, BR.ev, IE.ev, Env.upd]
  · cases ha

/-- The growth itself: a draw, a question about room, a new block. -/
theorem wq_grow (G : K.Good) (R : Rel K ρ h w) {E : Value → World → Prop} {elem : TypeId} {i : TypeInfo} {z : AV} {zc : List AV} {need sCap sLen n size : Nat} {s x : Value} {old new : List AV} (hi : K.P.info? elem = some i) (hsz : i.size = size) (hz : zero? K.P elem = .ok z) (hc : z.cells? = .ok zc) (hzl : zc.length = size)
    (hold : ∀ {Q' : Array Value → World → Prop} {w' : World}, Rel K ρ h w' → Q' (AV.evs ρ old).toArray w' → wq K.P K.Ev E (Builtin.firstCells size sLen s) Q' w')
    (hnew : ∀ {Q' : Array Value → World → Prop} {w' : World}, Rel K ρ h w' → Q' (AV.evs ρ new).toArray w' → wq K.P K.Ev E (Builtin.firstCells size n x) Q' w')
    (hlen : (old ++ new).length = need * size) (hneed : need ≤ 1048576) {Q : Value → World → Prop}
    (hq : ∀ (newCap : Nat) (w0 : World) (arr : Array Value) (rest : List Value), w0.heap = w.heap → w0.tape = w.tape → w0.os = w.os → w0.output = w.output → arr.toList = AV.evs ρ (old ++ new) ++ rest → arr.size = newCap * size → need ≤ newCap →
      Q (.slice (some ⟨w.heap.size, 0, none⟩) need newCap) { w0 with heap := w0.heap.push (.cells arr elem (0, 0)) }) :
    wq K.P K.Ev E (do
      let newCap ← choose (.appendCap need sCap elem)
      askRoom (newCap * (← typeInfo elem).bytes)
      let old ← Builtin.firstCells size sLen s
      let new ← Builtin.firstCells size n x
      let rest := Builtin.zeroCells (← zeroValue elem).cells (newCap - need)
      Pure.pure (.slice (some (← newRow elem (old ++ new ++ rest))) need newCap)) Q w := by
  simp only [wq_bind]
  rw [wq_choose]
  rw [if_neg (by simp [Question.forced])]
  intro nn
  simp only [wq_typeInfo hi]
  have ask : ∀ {m : Nat} {Q' : Unit → World → Prop} {w' : World}, Q' () w' → wq K.P K.Ev E (askRoom m) Q' w' := by
    intro m Q' w' hq'
    unfold askRoom
    simp only [wq_ite, wq_mark, wq_pure]
    split
    · exact ⟨G.noRoom, hq'⟩
    · exact hq'
  refine ask ?_
  have R' : Rel K ρ h { w with drawn := w.drawn + 1 } := R.at rfl
  refine hold R' ?_
  refine hnew R' ?_
  simp only [wq_zeroValue (ρ := ρ) hz, newRow, wq_bind, wq_newObj, wq_pure]
  have hcut : need ≤ Question.cut (.appendCap need sCap elem) nn := by simp only [Question.cut]; omega
  generalize hcap : Question.cut (.appendCap need sCap elem) nn = newCap at hcut
  refine hq newCap { w with drawn := w.drawn + 1 } _ (Builtin.zeroCells (z.ev ρ).cells (newCap - need)).toList rfl rfl rfl rfl ?_ ?_ hcut
  · simp [evs_append]
  · have e1 : (z.ev ρ).cells.size = size := by rw [cells?_ev hc ρ]; simp [evs_length, hzl]
    have e2 : old.length + new.length = need * size := by simpa using hlen
    simp only [Array.size_append, Builtin.zeroCells, Array.size_map, Array.size_range, List.size_toArray, evs_length, e1]
    rw [e2, ← Nat.add_mul]
    congr 1
    omega

end
end Go.Proofs.Ytcpiafgkmakdiaa.SX

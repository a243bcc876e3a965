/-
  append, whole.
-/
import Derived.Test.YtcpiafgkmakdiaaSxOp7
set_option linter.unusedSectionVars false
set_option linter.unusedVariables false
set_option linter.unusedSimpArgs false
namespace Go.Proofs.Ytcpiafgkmakdiaa.SX
section
variable {K : Ctx} {ρ : Env} {h : AH} {w : World} {U : Nat → Prop}

theorem store1_nb {a : AA} {v : AV} {h' : AH} (hs : store1 h a v = .ok h') : h'.nb = h.nb ∧ h'.lim = h.lim := by
  unfold store1 at hs
  split at hs
  · split at hs
    · split at hs
      · cases hs; exact ⟨rfl, rfl⟩
      · cases hs
    · cases hs
  · cases hs
theorem storeN_nb {a : AA} : ∀ {l : List AV} {j : Nat} {h h' : AH}, storeN h a l j = .ok h' → h'.nb = h.nb ∧ h'.lim = h.lim := by
  intro l
  induction l with
  | nil => intro j h h' hs; simp [storeN] at hs; subst hs; exact ⟨rfl, rfl⟩
  | cons v l ih =>
    intro j h h' hs
    simp only [storeN] at hs
    split at hs
    · rename_i h1 hh1
      have a1 := store1_nb hh1
      have a2 := ih hs
      exact ⟨a2.1.trans a1.1, a2.2.trans a1.2⟩
    · cases hs

theorem Grows.of_same {h' : AH} (I' : Ids K U h') (e1 : h'.nb = h.nb) (e2 : h'.lim = h.lim) : Grows K U h h' :=
  ⟨by omega, e2, I'.congr fun n => ⟨.inl, fun x => x.elim id fun x => by omega⟩⟩

theorem append?_ok (G : K.Good) (R : Rel K ρ h w) (I : Ids K U h) {argTypes : Array TypeId} {ty : TypeId} {s x v : AV} {h' : AH} (hs : s.In U) (hx : x.In U) (he : append? K.P h argTypes s x K.O = .ok (v, h')) :
    HOk K U ρ h w (Builtin.append_ argTypes ty #[s.ev ρ, x.ev ρ]) v h' := by
  unfold append? at he
  split at he
  · rename_i sType xType h0 h1
    simp only [bind_ok] at he
    obtain ⟨X, hX, he⟩ := he
    split at he
    · cases he
    · rename_i hXn
      simp only [bind_ok] at he
      obtain ⟨S, hS, he⟩ := he
      split at he
      · rename_i elem
        simp only [bind_ok] at he
        obtain ⟨size, hsz, z, hz, zc, hzc, bytes, hbytes, he⟩ := he
        split at he
        · rename_i hcond
          obtain ⟨hzl, hs0, hb0, hb1⟩ := hcond
          simp only [bind_ok] at he
          obtain ⟨⟨n, new⟩, hnew, he⟩ := he
          split at he
          · rename_i hall
            split at he
            · rename_i base sl sc
              simp only [bind_ok] at he
              obtain ⟨sLen, hsl, he⟩ := he
              obtain rfl := litNat?_ok hsl
              split at he
              · rename_i hlong
                have hnl := appArgs?_len hnew
                have hni := appArgs?_in I hnew
                obtain ⟨info, hinfo, hib⟩ := bytesOf?_ok hbytes
                obtain ⟨info', hinfo', his⟩ := sizeOf?_ok hsz
                obtain rfl : info = info' := by rw [hinfo] at hinfo'; exact Option.some.inj hinfo'
                have front : ∀ {E : Value → World → Prop} {Q : Value → World → Prop}, wq K.P K.Ev E (if sLen + n ≤ (sc.ev ρ).toNat then (do
                      let new ← Builtin.firstCells size n (x.ev ρ)
                      match base.map (AA.ev ρ) with
                      | some a => do
                        storeCells (a.add (sLen * size)) new.toList
                        Pure.pure (.slice (base.map (AA.ev ρ)) (sLen + n) (sc.ev ρ).toNat)
                      | none => Pure.pure (.slice (base.map (AA.ev ρ)) (sLen + n) (sc.ev ρ).toNat))
                    else (do
                      let newCap ← choose (.appendCap (sLen + n) (sc.ev ρ).toNat elem)
                      askRoom (newCap * (← typeInfo elem).bytes)
                      let old ← Builtin.firstCells size sLen (.slice (base.map (AA.ev ρ)) sLen (sc.ev ρ).toNat)
                      let new ← Builtin.firstCells size n (x.ev ρ)
                      let rest := Builtin.zeroCells (← zeroValue elem).cells (newCap - (sLen + n))
                      Pure.pure (.slice (some (← newRow elem (old ++ new ++ rest))) (sLen + n) newCap))) Q w →
                    wq K.P K.Ev E (Builtin.append_ argTypes ty #[(AV.slice base (.lit (.ofNat sLen)) sc).ev ρ, x.ev ρ]) Q w := by
                  intro E Q hq
                  have hX' := under?_ok hX
                  clear hX he
                  unfold Builtin.append_
                  simp only [h0, h1, List.getElem?_toArray, List.getElem?_cons_zero, List.getElem?_cons_succ, wq_bind, wq_underlying (under?_ok hS), wq_sizeOf hsz, wq_underlying hX', wq_pure, AV.ev, IE.ev]
                  cases X <;> first
                    | exact absurd rfl (hXn _)
                    | skip
                  all_goals simp only [Bool.false_eq_true, if_false]
                  all_goals rw [wq_bind]
                  all_goals refine wq_lenOf hnew ?_
                  all_goals have e0 : (Int.ofNat sLen).toNat = sLen := rfl
                  all_goals simp only [e0, Bool.not_false, if_true]
                  all_goals by_cases hc : sLen + n ≤ (sc.ev ρ).toNat
                  all_goals first
                    | (rw [if_pos hc] at hq ⊢
                       cases base <;> exact hq)
                    | (rw [if_neg hc] at hq ⊢
                       rw [wq_bind, wq_typeInfo hinfo]
                       rw [if_neg (by rw [hib]; intro hh; exact hh.2.elim id (fun h3 => by omega))]
                       rw [wq_bind, wq_typeInfo hinfo]
                       rw [if_neg (by rw [hib]; exact nextslice_small (by omega) hlong hb1)]
                       exact hq)
                have hone := oneCells_ev hall ρ
                have new? : ∀ {E : Value → World → Prop} {Q' : Array Value → World → Prop} {w' : World}, Rel K ρ h w' → Q' (AV.evs ρ new).toArray w' → wq K.P K.Ev E (Builtin.firstCells size n (x.ev ρ)) Q' w' := fun R' hq' => wq_firstCells R' G hnew hq'
                have isz : info.size = size := by rw [← his]
                have old? : ∀ {old : List AV}, appOld? K.O h base sLen size = .ok old →
                    old.length = sLen * size ∧ AV.Ins U old ∧ ∀ {E : Value → World → Prop} {Q' : Array Value → World → Prop} {w' : World}, Rel K ρ h w' → Q' (AV.evs ρ old).toArray w' → wq K.P K.Ev E (Builtin.firstCells size sLen (.slice (base.map (AA.ev ρ)) sLen (sc.ev ρ).toNat)) Q' w' := by
                  intro old ho
                  unfold appOld? at ho
                  split at ho
                  · split at ho
                    · rename_i h00
                      cases ho
                      exact ⟨by simp [h00], trivial, fun R' hq' => hq'⟩
                    · cases ho
                  · refine ⟨loadN_length ho, loadN_in I ho, fun R' hq' => ?_⟩
                    simp only [Option.map_some, Builtin.firstCells, loadCells]
                    exact loadN_sound R' G ho (by simpa using hq')
                split at he
                · -- the room is known
                  rename_i cap
                  have ec : ((IE.lit (Int.ofNat cap)).ev ρ).toNat = cap := rfl
                  split at he
                  · rename_i hle
                    unfold appFit? at he
                    split at he
                    · rename_i a
                      simp only [bind_ok, pure_ok] at he
                      obtain ⟨h2, hst, e⟩ := he
                      cases e
                      have hnb := storeN_nb hst
                      have I' := storeN_ids I hst hni
                      refine ⟨⟨AA.In.mono plus_sub hs.1, trivial, trivial⟩, Grows.of_same I' hnb.1 hnb.2, fun {E Q} hq => front ?_⟩
                      rw [ec, if_pos hle, wq_bind]
                      refine new? R ?_
                      simp only [Option.map_some, wq_bind]
                      rw [← AA.add_ev]
                      refine storeN_sound G R hst fun w' r1 r2 _ _ => ?_
                      exact hq _ _ ⟨ρ, Agree.refl _ _, r1, r2, rfl⟩
                    · split at he
                      · rename_i hn0
                        rw [pure_ok] at he
                        cases he
                        subst hn0
                        refine HOk.pure R I ⟨trivial, trivial, trivial⟩ fun {E Q} hq => front ?_
                        rw [ec, if_pos hle, wq_bind]
                        refine new? R ?_
                        exact hq
                      · cases he
                  · rename_i hle
                    unfold appGrow? at he
                    simp only [bind_ok] at he
                    obtain ⟨old, hold, ha⟩ := he
                    obtain ⟨o1, o2, o3⟩ := old? hold
                    have hin : AV.Ins U (old ++ new) := Ins_iff.2 fun a ha => by
                      rcases List.mem_append.1 ha with h' | h'
                      · exact Ins_iff.1 o2 _ h'
                      · exact Ins_iff.1 hni _ h'
                    obtain ⟨r1, r2, r3⟩ := allocRow?_sound R I ha hin
                    refine ⟨r1, r2, fun {E Q} hq => front ?_⟩
                    rw [ec, if_neg hle]
                    refine wq_grow G R hinfo isz hz hzc hzl (fun R' => o3 R') (fun R' => new? R') (by rw [List.length_append, o1, hnl, Nat.add_mul]) hlong ?_
                    intro newCap w0 arr rest e1 e2 e3 e4 e5 e6 e7
                    have R0 : Rel K ρ h w0 := R.at e1
                    obtain ⟨Rp, Kp⟩ := R0.push (.cells arr elem (0, 0))
                    have K0 : Keeps K.own w w0 := ⟨fun _ _ => by rw [e1], by rw [e1]; exact Nat.le_refl _, e2, e3, e4⟩
                    obtain ⟨ρ', a1, a2, a3, a4⟩ := r3 w.heap.size newCap { w0 with heap := w0.heap.push (.cells arr elem (0, 0)) } arr rest info (K0.trans Kp) (by rw [← e1]; simp) ⟨R.room _ (Nat.le_refl _), fun n hs => by have := R.low _ n hs; omega⟩ Rp
                      (fun j b hb e => by obtain ⟨arr', ha', _⟩ := R.blk j b hb; have := heap_lt ha'; omega) e5 hinfo (by rw [isz]; exact e6)
                    exact hq _ _ ⟨ρ', a1, a2, a3, a4.symm⟩
                · -- nobody knows the room
                  unfold appRow? at he
                  split at he
                  · rename_i a
                    split at he
                    · rename_i i hblk hoff
                      split at he
                      · rename_i cs e c' hfind
                        split at he
                        · rename_i hc3
                          obtain ⟨hee, hcc, hlen⟩ := hc3
                          have hee' := hee.symm
                          subst hee'
                          have hcc' := IE.eqb_eq hcc
                          subst hcc'
                          obtain ⟨arr, ha1, rest, i1, hf1, hf2, hf3⟩ := R.arr hfind rfl
                          obtain rfl : info = i1 := by rw [hinfo] at hf2; exact Option.some.inj hf2
                          have hown := R.own _ _ hfind rfl
                          have hns : ∀ n, ¬ K.still (ρ.b i) n := fun n hs => by have := R.lent _ _ hfind n hs; cases this
                          have hbi := I.hp _ _ hfind
                          have hasz : arr.size = cs.length + rest.length := by
                            have := congrArg List.length hf1
                            simpa [evs_length] using this
                          have hcap : sLen ≤ (sc.ev ρ).toNat := by
                            have h5 : sLen * size ≤ (sc.ev ρ).toNat * size := by rw [← isz, ← hf3, isz]; omega
                            exact Nat.le_of_mul_le_mul_right h5 hs0
                          have eaddr : a.ev ρ = ⟨ρ.b i, 0, none⟩ := by simp [AA.ev, hblk, hoff, BR.ev, IE.ev]
                          split at he
                          · rename_i hn0
                            rw [pure_ok] at he
                            cases he
                            subst hn0
                            have hnil : new = [] := List.eq_nil_of_length_eq_zero (by simpa using hnl)
                            subst hnil
                            refine HOk.pure R I hs fun {E Q} hq => front ?_
                            rw [if_pos (by omega), wq_bind]
                            refine new? R ?_
                            simp only [Option.map_some, AV.evs, wq_bind, storeCells, wq_pure]
                            exact hq
                          · rename_i hn0
                            have hin : AV.Ins U (cs.take (sLen * size) ++ new) := Ins_iff.2 fun x hx' => by
                              rcases List.mem_append.1 hx' with h' | h'
                              · exact Ins_iff.1 hbi.1 _ (List.mem_of_mem_take h')
                              · exact Ins_iff.1 hni _ h'
                            obtain ⟨r1, r2, r3⟩ := allocRow?_sound R I he hin
                            refine ⟨r1, r2, fun {E Q} hq => front ?_⟩
                            by_cases hfit : sLen + n ≤ (sc.ev ρ).toNat
                            · -- in its place
                              rw [if_pos hfit, wq_bind]
                              refine new? R ?_
                              simp only [Option.map_some, wq_bind, eaddr]
                              have eadd : (⟨ρ.b i, 0, none⟩ : Addr).add (sLen * size) = ⟨ρ.b i, sLen * size, none⟩ := by unfold Addr.add; split <;> simp_all
                              rw [eadd]
                              have hroom : sLen * size + 0 + (AV.evs ρ new).length ≤ arr.size := by
                                rw [hf3, isz, evs_length, hnl, Nat.add_zero, ← Nat.add_mul]
                                exact Nat.mul_le_mul_right _ hfit
                              refine wq_storeCells_arr G hown hns ha1 hroom hone ?_
                              intro w' arr' q1 q2 q3 q4 q5 q6 q7 q8 q9
                              have hdrop : ∀ j b, findB j (dropB i h.hp) = some b → findB j h.hp = some b ∧ j ≠ i := fun j b hb => by
                                rw [findB_dropB _ _ _ I.nodup] at hb
                                split at hb
                                · cases hb
                                · rename_i hne; exact ⟨hb, hne⟩
                              have hneb : ∀ j b, findB j (dropB i h.hp) = some b → ρ.b j ≠ ρ.b i := fun j b hb e => (hdrop j b hb).2 (R.inj _ _ _ _ (hdrop j b hb).1 hfind e)
                              have Kw : Keeps K.own w w' := ⟨fun m hm => q2 m (fun e => hm (by rw [e]; exact hown)), by rw [q3]; exact Nat.le_refl _, q4, q5, q6⟩
                              have Rw : Rel K ρ { h with hp := dropB i h.hp } w' :=
                                ⟨fun j b hb => by obtain ⟨arr2, x1, x2⟩ := R.blk j b (hdrop j b hb).1; exact ⟨arr2, by rw [q2 _ (hneb j b hb)]; exact x1, x2⟩,
                                 fun j b hb => R.own' j b (hdrop j b hb).1, fun j k b c hb hc e => R.inj j k b c (hdrop j b hb).1 (hdrop k c hc).1 e, R.bs, R.is,
                                 fun p hp => by
                                  obtain ⟨m1, m2, m3⟩ := R.mem p hp
                                  refine ⟨m1, ?_, m3⟩
                                  simp only [World.cell?] at m2 ⊢
                                  rw [q2 _ (fun e => m1 (by rw [e]; exact hown))]; exact m2,
                                 fun m hm => R.room m (by rw [q3] at hm; exact hm), fun j b hb => R.lent j b (hdrop j b hb).1, fun b n hs => by rw [q3]; exact R.low b n hs⟩
                              have harr : arr'.toList = AV.evs ρ (cs.take (sLen * size) ++ new) ++ arr'.toList.drop (sLen * size + n * size) := by
                                have hl : (AV.evs ρ (cs.take (sLen * size) ++ new)) = arr'.toList.take (sLen * size + n * size) := by
                                  refine List.ext_getElem? fun m => ?_
                                  rw [List.getElem?_take]
                                  rw [evs_append]
                                  have hl1 : (AV.evs ρ (cs.take (sLen * size))).length = sLen * size := by rw [evs_length, List.length_take]; omega
                                  by_cases hm : m < sLen * size
                                  · rw [List.getElem?_append_left (by rw [hl1]; exact hm), if_pos (by omega), evs_get, List.getElem?_take, if_pos hm, (show arr'.toList[m]? = arr'[m]? from Array.getElem?_toList), q8 m (by omega), (show arr[m]? = arr.toList[m]? from Array.getElem?_toList.symm), hf1, List.getElem?_append_left (by rw [evs_length]; omega), evs_get]
                                  · rw [List.getElem?_append_right (by rw [hl1]; omega), hl1]
                                    by_cases hm2 : m < sLen * size + n * size
                                    · rw [if_pos hm2, (show arr'.toList[m]? = arr'[m]? from Array.getElem?_toList)]
                                      have := q9 (m - sLen * size) (by rw [evs_length, hnl]; omega)
                                      rw [← this]
                                      congr 1
                                      omega
                                    · rw [if_neg hm2, List.getElem?_eq_none (by rw [evs_length, hnl]; omega)]
                                rw [hl]; exact (List.take_append_drop _ _).symm
                              obtain ⟨ρ', a1, a2, a3, a4⟩ := r3 (ρ.b i) (sc.ev ρ).toNat w' arr' _ info Kw q1 ⟨hown, hns⟩ Rw hneb harr hinfo (by rw [q7]; exact hf3)
                              exact hq _ _ ⟨ρ', a1, a2, a3, a4.symm⟩
                            · -- elsewhere
                              rw [if_neg hfit]
                              have hold : ∀ {E : Value → World → Prop} {Q' : Array Value → World → Prop} {w' : World}, Rel K ρ h w' → Q' (AV.evs ρ (cs.take (sLen * size))).toArray w' → wq K.P K.Ev E (Builtin.firstCells size sLen (.slice (some (a.ev ρ)) sLen (sc.ev ρ).toNat)) Q' w' := by
                                intro E Q' w' R' hq'
                                have hl : ∀ (m j : Nat), j + m ≤ cs.length → loadN K.O h a m j = .ok ((cs.drop j).take m) := by
                                  intro m
                                  induction m with
                                  | zero => intro j _; simp [loadN]
                                  | succ m ih =>
                                    intro j hj
                                    have h1 : load1 K.O h (a.add j) = .ok cs[j] := by
                                      unfold load1
                                      have : (a.add j) = ⟨.dyn i, .lit (.ofNat j)⟩ := by
                                        simp only [AA.add, hblk, hoff, addN, Nat.zero_add]
                                      rw [this]
                                      simp only [hfind, ABlk.cs]
                                      rw [List.getElem?_eq_getElem (by omega)]
                                    simp only [loadN, h1]
                                    rw [ih (j + 1) (by omega)]
                                    simp only
                                    rw [List.drop_eq_getElem_cons (by omega : j < cs.length), List.take_succ_cons]
                                simp only [Builtin.firstCells, loadCells]
                                exact loadN_sound R' G (hl (sLen * size) 0 (by omega)) (by simpa using hq')
                              refine wq_grow G R hinfo isz hz hzc hzl (fun R' => hold R') (fun R' => new? R') (by rw [List.length_append, List.length_take, hnl, Nat.add_mul, Nat.min_eq_left hlen]) hlong ?_
                              intro newCap w0 arr2 rest2 e1 e2 e3 e4 e5 e6 e7
                              have R0 : Rel K ρ h w0 := R.at e1
                              obtain ⟨Rp, Kp⟩ := R0.push (.cells arr2 elem (0, 0))
                              have K0 : Keeps K.own w w0 := ⟨fun _ _ => by rw [e1], by rw [e1]; exact Nat.le_refl _, e2, e3, e4⟩
                              obtain ⟨ρ', a1, a2, a3, a4⟩ := r3 w.heap.size newCap { w0 with heap := w0.heap.push (.cells arr2 elem (0, 0)) } arr2 rest2 info (K0.trans Kp) (by rw [← e1]; simp) ⟨R.room _ (Nat.le_refl _), fun n hs => by have := R.low _ n hs; omega⟩ (Rp.drop I i)
                                (fun j b hb e => by
                                  rw [findB_dropB _ _ _ I.nodup] at hb
                                  split at hb
                                  · cases hb
                                  · obtain ⟨arr', ha', _⟩ := R.blk j b hb; have := heap_lt ha'; omega) e5 hinfo (by rw [isz]; exact e6)
                              exact hq _ _ ⟨ρ', a1, a2, a3, a4.symm⟩
                        · cases he
                      · cases he
                    · cases he
                  · cases he
              · cases he
            · cases he
          · cases he
        · cases he
      · cases he
  · cases he
end
end Go.Proofs.Ytcpiafgkmakdiaa.SX

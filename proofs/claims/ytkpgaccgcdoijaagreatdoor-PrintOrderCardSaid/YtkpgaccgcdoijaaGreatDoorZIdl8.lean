import Derived.Test.YtkpgaccgcdoijaaGreatDoorZIdlB
namespace Go.Proofs.YtkpgaccgcdoijaaGreatDoor
open Go.RowKit

theorem own_set4 {w : World} {base b : Nat} {e : TypeId} {size : Nat} {v : Value} {n : Nat} {xs : List Value} (h : w.ownsRow (base + 1) e size v n xs) (hb : b < base) (u0 u1 u2 u3 : Value) :
    ((((w.setCell ⟨b, 0, none⟩ u0).setCell ⟨b, 1, none⟩ u1).setCell ⟨b, 2, none⟩ u2).setCell ⟨b, 3, none⟩ u3).ownsRow (base + 1) e size v n xs :=
  own_set (own_set (own_set (own_set h (by simp only; omega) _) (by simp only; omega) _) (by simp only; omega) _) (by simp only; omega) _
theorem MsgRow.same {w w' : World} {E : Nat} : ∀ {B : Nat} {l : List MessageD} {cs : List Value}, (∀ k, B ≤ k → w'.heap[k]? = w.heap[k]?) → MsgRow w E B l cs → MsgRow w' E B l cs
  | _, [], _, _, h => h
  | B, _ :: _, _, hk, ⟨vf, vr, rest, B', h1, h2, h3, h4, h5, h6, h7⟩ => ⟨vf, vr, rest, B', h1, own_same h2 hk, own_same h3 hk, h4, h5, h6, MsgRow.same (fun k hk' => hk k (Nat.le_trans h6 hk')) h7⟩
theorem EnumRow.same {w w' : World} {E : Nat} : ∀ {B : Nat} {l : List EnumD} {cs : List Value}, (∀ k, B ≤ k → w'.heap[k]? = w.heap[k]?) → EnumRow w E B l cs → EnumRow w' E B l cs
  | _, [], _, _, h => h
  | B, _ :: _, _, hk, ⟨vf, rest, B', h1, h2, h4, h6, h7⟩ => ⟨vf, rest, B', h1, own_same h2 hk, h4, h6, EnumRow.same (fun k hk' => hk k (Nat.le_trans h6 hk')) h7⟩
theorem set4_same {w : World} {b : Nat} (u0 u1 u2 u3 : Value) (k : Nat) (hk : b < k) : ((((w.setCell ⟨b, 0, none⟩ u0).setCell ⟨b, 1, none⟩ u1).setCell ⟨b, 2, none⟩ u2).setCell ⟨b, 3, none⟩ u3).heap[k]? = w.heap[k]? := by
  rw [Below.heap_setCell _ _ _ _ (by simp only; omega), Below.heap_setCell _ _ _ _ (by simp only; omega), Below.heap_setCell _ _ _ _ (by simp only; omega), Below.heap_setCell _ _ _ _ (by simp only; omega)]

set_option maxHeartbeats 16000000 in
set_option maxRecDepth 100000 in
theorem schema_calls (N g : Nat) (s : St) (w : World) (h : PS N g s w) (hT : Tabs w) (hN : N ≤ w.heap.size) (hz : s.Small) (hL : s.l.length ≤ 20000) :
    Calls Tryz.prog 66 #[.pointer (some ⟨g, 0, none⟩)] w (SchemaPost N g s w) := by
  have hgN := h.1.1
  have hgT := h.1.2
  have hsm : s.m ≤ 40001 := by unfold St.m; split <;> omega
  have hv : schemaV s = { name := nameV (needsS [w_schema] s), messages := (schemaR s).2.1, enums := (schemaR s).2.2.1, methods := (schemaR s).2.2.2 } := rfl
  have hs : schemaS s = (schemaR s).1 := rfl
  have hR : schemaR s = schemaFrom (s.m + 1) (needsS [w_semi] (nameS (needsS [w_schema] s))) [] [] [] := rfl
  have hm0 := needsS_m [w_schema] s
  have hm1 := nameS_m (needsS [w_schema] s)
  have hm2 := needsS_m [w_semi] (nameS (needsS [w_schema] s))
  have hz0 := hz.needs [w_schema]
  have hl2 : (needsS [w_semi] (nameS (needsS [w_schema] s))).l.length ≤ 20000 := Nat.le_trans (needs_len _ _) (Nat.le_trans (name_len _) (Nat.le_trans (needs_len _ _) hL))
  replace hv := Lib.hid hv; replace hs := Lib.hid hs
  -- the result's block; 'schema'
  have hp0 := h.alloc hN (.cells #[.string noText, .slice none 0 0, .slice none 0 0, .slice none 0 0] 26)
  have hg0 := World.grownBy_alloc w (.cells #[.string noText, .slice none 0 0, .slice none 0 0, .slice none 0 0] 26) (some g)
  have hr0 := heap_alloc_new w (.cells #[.string noText, .slice none 0 0, .slice none 0 0, .slice none 0 0] 26)
  have cE := needs_one N g w_schema s _ (w.heap.size + 1) (by simp) hp0 (by omega)
  generalize needsS [w_schema] s = s0 at hv hR hm0 hm1 hm2 hz0 hl2 cE
  replace cE := Lib.hid cE; replace hr0 := Lib.hid hr0; replace hg0 := Lib.hid hg0
  clear hp0 h
  have hz1 := hz0.name
  generalize schemaR s = R at hv hs hR
  generalize s.m = M at hR hm0 hm1 hm2 hsm
  replace hR := Lib.hid hR
  go_enter Tryz.func66, Tryz.ntmps66
  go_wp2_with fail
  refine cE.out.mono ?_; rintro e w1 ⟨⟨v1, rfl⟩, hp1, hg1⟩
  have hgr1 := grown_trans hg0.out hg1
  have hr1 := blk_grown hr0.out hg1 (by omega)
  have hrs1 := blk_lt hr1
  clear cE hg1 hr0 hg0
  have cN := pname_calls N g s0 w1 hp1 (hT.grown hgr1 hgT (by omega)) (by omega) hz0
  generalize nameV s0 = NM at hv cN
  generalize nameS s0 = s1 at hR cN hz1 hm1 hm2 hl2
  replace cN := Lib.hid cN; replace hr1 := Lib.hid hr1
  clear hp1
  go_wp2_with fail
  refine cN.out.mono ?_; rintro e w2 ⟨rfl, hp2, hg2⟩
  have hgr2 := grown_trans hgr1 hg2
  have hr2 := blk_grown hr1.out hg2 (by omega)
  have hrs2 := blk_lt hr2
  clear cN hg2 hr1 hgr1
  have hp2' := hp2.alloc (by omega) (.cells #[.string NM, .slice none 0 0, .slice none 0 0, .slice none 0 0] 26)
  have hg2' := grown_trans hgr2 (World.grownBy_alloc w2 (.cells #[.string NM, .slice none 0 0, .slice none 0 0, .slice none 0 0] 26) (some g))
  have hr2' := blk_alloc hr2 (.cells #[.string NM, .slice none 0 0, .slice none 0 0, .slice none 0 0] 26)
  have hx2' := heap_alloc_new w2 (.cells #[.string NM, .slice none 0 0, .slice none 0 0, .slice none 0 0] 26)
  have cE := needs_one N g w_semi s1 _ (w2.heap.size + 1) (by simp) hp2' (by omega)
  have hz2 := hz1.needs [w_semi]
  generalize needsS [w_semi] s1 = s2 at hR cE hz2 hm2 hl2
  replace cE := Lib.hid cE; replace hr2' := Lib.hid hr2'; replace hx2' := Lib.hid hx2'; replace hg2' := Lib.hid hg2'
  clear hp2 hgr2 hr2 hp2' hz1
  go_wp2_with fail
  refine cE.out.mono ?_; rintro e w3 ⟨⟨v3, rfl⟩, hp3, hg3⟩
  have hgr3 := grown_trans hg2'.out hg3
  have hr3 := blk_grown hr2'.out hg3 (by omega)
  have hx3 := blk_grown hx2'.out hg3 (by omega)
  have hxs3 := blk_lt hx3
  clear cE hg3 hr2' hx2' hg2'
  replace hp3 := Lib.hid hp3; replace hr3 := Lib.hid hr3; replace hx3 := Lib.hid hx3
  generalize hbx : w2.heap.size = bx at hrs2 hxs3 hx3 ⊢
  replace hbx := Lib.hid hbx
  go_wp2_with fail
  go_loopg [] (M + 1) (fun gk wr => ∃ (st : St) (ms : List MessageD) (es : List EnumD) (cs : List MethodD) (vm ve vc : Value) (mcs ecs : List Value) (E E2 : Nat), PS N g st wr ∧ w.grownBy wr (some g) ∧ wr.heap[w.heap.size]? = some (.cells #[.string noText, .slice none 0 0, .slice none 0 0, .slice none 0 0] 26 (0, 0)) ∧ wr.heap[bx]? = some (.cells #[.string NM, vm, ve, vc] 26 (0, 0)) ∧
    wr.ownsRow (bx + 1) 40 3 vm ms.length mcs ∧ wr.ownsRow (bx + 1) 47 2 ve es.length ecs ∧ wr.ownsRow (bx + 1) 54 3 vc cs.length (methodsCells cs) ∧ MsgRow wr E (bx + 1) ms mcs ∧ EnumRow wr E2 (bx + 1) es ecs ∧ E ≤ wr.heap.size ∧ E2 ≤ wr.heap.size ∧
    Hid (schemaFrom gk st ms es cs = R) ∧ st.m < gk ∧ ms.length + es.length + cs.length + gk ≤ M + 1 ∧ st.Small ∧ st.l.length ≤ 20000)
  case atStart => exact ⟨s2, [], [], [], _, _, _, [], [], bx + 1, bx + 1, hp3.out, hgr3, hr3.out, hx3.out, World.ownsRow_nil _ _ _ _, World.ownsRow_nil _ _ _ _, World.ownsRow_nil _ _ _ _, ⟨rfl, Nat.le_refl _⟩, ⟨rfl, Nat.le_refl _⟩, by omega, by omega, Lib.hid hR.out.symm, by omega, by simp, hz2, hl2⟩
  case round =>
    obtain ⟨st, ms, es, cs, vm, ve, vc, mcs, ecs, E, E2, hps, hgr, hr, hx, hom, hoe, hoc, hmr, her, hE, hE2, hacc, hmk, hlk, hzs, hll⟩ := hrel
    obtain ⟨k1, rfl⟩ : ∃ k, gk = k + 1 := ⟨gk - 1, by omega⟩
    obtain ⟨mA, mc, rfl⟩ := own_slice hom
    obtain ⟨eA, ec, rfl⟩ := own_slice hoe
    obtain ⟨cA, cc, rfl⟩ := own_slice hoc
    have hgb : g < bx := by omega
    obtain ⟨A0, c0, hq0, hq1, hlc, hcm, _⟩ := hps.cell0
    by_cases hbad : st.bad = true
    · rw [hbad] at hq1
      have hfin := Lib.hid (show R = (st, ms, es, cs) by rw [← hacc.out]; simp only [schemaFrom]; rw [if_pos (by simp [hbad])])
      clear hbad hacc hq0 hlc
      replace hps := Lib.hid hps
      have hc0 := blk_cell hx 0
      have hf0 := blk_frozen hx 0
      have hc1 := blk_cell hx 1
      have hf1 := blk_frozen hx 1
      have hc2 := blk_cell hx 2
      have hf2 := blk_frozen hx 2
      have hc3 := blk_cell hx 3
      have hf3 := blk_frozen hx 3
      simp only [List.getElem?_toArray, List.getElem?_cons_succ, List.getElem?_cons_zero] at hc0 hc1 hc2 hc3
      have hd0 := blk_cell hr 0
      have he0 := blk_frozen hr 0
      have hd1 := blk_cell hr 1
      have he1 := blk_frozen hr 1
      have hd2 := blk_cell hr 2
      have he2 := blk_frozen hr 2
      have hd3 := blk_cell hr 3
      have he3 := blk_frozen hr 3
      simp only [List.getElem?_toArray, List.getElem?_cons_succ, List.getElem?_cons_zero] at hd0 hd1 hd2 hd3
      replace hx := Lib.hid hx; replace hr := Lib.hid hr
      go_wp2
      refine bodyPost_ret (v := .agg #[.string NM, .slice mA ms.length mc, .slice eA es.length ec, .slice cA cs.length cc]) (by simp [results, Tryz.results66, go_sem, *]) rfl ?_
      unfold SchemaPost
      rw [hv.out, hs.out, hfin.out]
      have hb0 : w.heap.size < bx := hrs2
      refine ⟨.slice mA ms.length mc, .slice eA es.length ec, .slice cA cs.length cc, rfl, ?_, ?_, mcs, ecs, ?_, ?_, ?_, ?_, ?_⟩
      · exact (((hps.out.setCell (by simpa using hN) _).setCell (by simpa using hN) _).setCell (by simpa using hN) _).setCell (by simpa using hN) _
      · exact grown_set (grown_set (grown_set (grown_set hgr (Nat.le_refl _) _) (Nat.le_refl _) _) (Nat.le_refl _) _) (Nat.le_refl _) _
      · exact own_mono (own_set4 hom hrs2 _ _ _ _) (by omega)
      · exact own_mono (own_set4 hoe hrs2 _ _ _ _) (by omega)
      · exact own_mono (own_set4 hoc hrs2 _ _ _ _) (by omega)
      · exact (MsgRow.same (fun k hk => set4_same _ _ _ _ k (by omega)) hmr).wider (by simpa [setCell_size] using hE) (by omega)
      · exact (EnumRow.same (fun k hk => set4_same _ _ _ _ k (by omega)) her).wider (by simpa [setCell_size] using hE2) (by omega)

    · have hbad' : st.bad = false := by simpa using hbad
      clear hbad
      by_cases hl0 : st.l = []
      · have hfin := Lib.hid (show R = (st, ms, es, cs) by rw [← hacc.out]; simp only [schemaFrom]; rw [if_pos (by simp [hl0])])
        rw [hbad'] at hq1
        have hlz : st.l.length = 0 := by rw [hl0]; rfl
        rw [hlz] at hq0
        clear hbad' hacc hlc hlz hl0
        replace hps := Lib.hid hps
        have hc0 := blk_cell hx 0
        have hf0 := blk_frozen hx 0
        have hc1 := blk_cell hx 1
        have hf1 := blk_frozen hx 1
        have hc2 := blk_cell hx 2
        have hf2 := blk_frozen hx 2
        have hc3 := blk_cell hx 3
        have hf3 := blk_frozen hx 3
        simp only [List.getElem?_toArray, List.getElem?_cons_succ, List.getElem?_cons_zero] at hc0 hc1 hc2 hc3
        have hd0 := blk_cell hr 0
        have he0 := blk_frozen hr 0
        have hd1 := blk_cell hr 1
        have he1 := blk_frozen hr 1
        have hd2 := blk_cell hr 2
        have he2 := blk_frozen hr 2
        have hd3 := blk_cell hr 3
        have he3 := blk_frozen hr 3
        simp only [List.getElem?_toArray, List.getElem?_cons_succ, List.getElem?_cons_zero] at hd0 hd1 hd2 hd3
        replace hx := Lib.hid hx; replace hr := Lib.hid hr
        go_wp2
        refine bodyPost_ret (v := .agg #[.string NM, .slice mA ms.length mc, .slice eA es.length ec, .slice cA cs.length cc]) (by simp [results, Tryz.results66, go_sem, *]) rfl ?_
        unfold SchemaPost
        rw [hv.out, hs.out, hfin.out]
        have hb0 : w.heap.size < bx := hrs2
        refine ⟨.slice mA ms.length mc, .slice eA es.length ec, .slice cA cs.length cc, rfl, ?_, ?_, mcs, ecs, ?_, ?_, ?_, ?_, ?_⟩
        · exact (((hps.out.setCell (by simpa using hN) _).setCell (by simpa using hN) _).setCell (by simpa using hN) _).setCell (by simpa using hN) _
        · exact grown_set (grown_set (grown_set (grown_set hgr (Nat.le_refl _) _) (Nat.le_refl _) _) (Nat.le_refl _) _) (Nat.le_refl _) _
        · exact own_mono (own_set4 hom hrs2 _ _ _ _) (by omega)
        · exact own_mono (own_set4 hoe hrs2 _ _ _ _) (by omega)
        · exact own_mono (own_set4 hoc hrs2 _ _ _ _) (by omega)
        · exact (MsgRow.same (fun k hk => set4_same _ _ _ _ k (by omega)) hmr).wider (by simpa [setCell_size] using hE) (by omega)
        · exact (EnumRow.same (fun k hk => set4_same _ _ _ _ k (by omega)) her).wider (by simpa [setCell_size] using hE2) (by omega)

      · have hlp : (0 : Int) < ((st.l.length : Nat) : Int) := by have := List.length_pos_iff.2 hl0; omega
        have hlp' : 0 < st.l.length := List.length_pos_iff.2 hl0
        have hst : R = if looksB w_message st then schemaFrom k1 (messageS (takesS w_message st)) (ms ++ [messageV (takesS w_message st)]) es cs
            else if looksB w_enum st then schemaFrom k1 (enumS (takesS w_enum st)) ms (es ++ [enumV (takesS w_enum st)]) cs
            else if looksB w_call st then schemaFrom k1 (callS (takesS w_call st)) ms es (cs ++ [callV (takesS w_call st)])
            else schemaFrom k1 ⟨st.l, true⟩ ms es cs := by
          rw [← hacc.out]; simp only [schemaFrom]; rw [if_neg (by simp [hbad', hl0])]
        have cT1 := fun W hW => takes_calls N g w_message st W hW
        have cT2 := fun W hW => takes_calls N g w_enum st W hW
        have cT3 := fun W hW => takes_calls N g w_call st W hW
        have hn1 : looksB w_message st = false → takesS w_message st = st := fun hh => by simp [takesS, hh]
        have hn2 : looksB w_enum st = false → takesS w_enum st = st := fun hh => by simp [takesS, hh]
        have hn3 : looksB w_call st = false → takesS w_call st = st := fun hh => by simp [takesS, hh]
        have hy1 := takesS_lt w_message st
        have hy2 := takesS_lt w_enum st
        have hy3 := takesS_lt w_call st
        have hmb : (⟨st.l, true⟩ : St).m < st.m := by unfold St.m; rw [hbad']; simp
        rw [hbad'] at hq1
        clear hbad' hacc hl0
        generalize looksB w_message st = q1 at hst cT1 hn1 hy1
        generalize looksB w_enum st = q2 at hst cT2 hn2 hy2
        generalize looksB w_call st = q3 at hst cT3 hn3 hy3
        replace cT1 := Lib.hid cT1; replace cT2 := Lib.hid cT2; replace cT3 := Lib.hid cT3; replace hst := Lib.hid hst; replace hy1 := Lib.hid hy1; replace hy2 := Lib.hid hy2; replace hy3 := Lib.hid hy3
        replace hr := Lib.hid hr; replace hx := Lib.hid hx; replace hps := Lib.hid hps
        replace hn1 := Lib.hid hn1; replace hn2 := Lib.hid hn2; replace hn3 := Lib.hid hn3
        replace hmr := Lib.hid hmr; replace her := Lib.hid her
        cases q1
        · have hn1' := Lib.hid (hn1.out rfl)
          go_wp2_with fail
          refine (cT1.out _ hps.out).mono ?_; rintro e wt1 ⟨rfl, hpt, hgt⟩
          rw [hn1'.out] at hpt
          obtain ⟨pc, hpc⟩ := hps.out.blk
          have hkt := TyKept.grown (T := [44, 3, 49]) hgt hpc (by decide)
          replace hgr := grown_trans hgr hgt
          replace hr := Lib.hid (blk_grown hr.out hgt (by omega)); replace hx := Lib.hid (blk_grown hx.out hgt (by omega))
          replace hom := own_grown hom hgt (by omega); replace hoe := own_grown hoe hgt (by omega); replace hoc := own_grown hoc hgt (by omega)
          replace hmr := Lib.hid (hmr.out.kept (hkt.mono (by decide))); replace her := Lib.hid (her.out.kept (hkt.mono (by decide)))
          replace hE := Nat.le_trans hE hgt.size; replace hE2 := Nat.le_trans hE2 hgt.size
          replace hps := Lib.hid hpt
          clear hgt hkt hpc hpt cT1 hn1' hn1

          cases q2
          · have hn2' := Lib.hid (hn2.out rfl)
            go_wp2_with fail
            refine (cT2.out _ hps.out).mono ?_; rintro e wt2 ⟨rfl, hpt, hgt⟩
            rw [hn2'.out] at hpt
            obtain ⟨pc, hpc⟩ := hps.out.blk
            have hkt := TyKept.grown (T := [44, 3, 49]) hgt hpc (by decide)
            replace hgr := grown_trans hgr hgt
            replace hr := Lib.hid (blk_grown hr.out hgt (by omega)); replace hx := Lib.hid (blk_grown hx.out hgt (by omega))
            replace hom := own_grown hom hgt (by omega); replace hoe := own_grown hoe hgt (by omega); replace hoc := own_grown hoc hgt (by omega)
            replace hmr := Lib.hid (hmr.out.kept (hkt.mono (by decide))); replace her := Lib.hid (her.out.kept (hkt.mono (by decide)))
            replace hE := Nat.le_trans hE hgt.size; replace hE2 := Nat.le_trans hE2 hgt.size
            replace hps := Lib.hid hpt
            clear hgt hkt hpc hpt cT2 hn2' hn2

            cases q3
            · have hn3' := Lib.hid (hn3.out rfl)
              go_wp2_with fail
              refine (cT3.out _ hps.out).mono ?_; rintro e wt3 ⟨rfl, hpt, hgt⟩
              rw [hn3'.out] at hpt
              obtain ⟨pc, hpc⟩ := hps.out.blk
              have hkt := TyKept.grown (T := [44, 3, 49]) hgt hpc (by decide)
              replace hgr := grown_trans hgr hgt
              replace hr := Lib.hid (blk_grown hr.out hgt (by omega)); replace hx := Lib.hid (blk_grown hx.out hgt (by omega))
              replace hom := own_grown hom hgt (by omega); replace hoe := own_grown hoe hgt (by omega); replace hoc := own_grown hoc hgt (by omega)
              replace hmr := Lib.hid (hmr.out.kept (hkt.mono (by decide))); replace her := Lib.hid (her.out.kept (hkt.mono (by decide)))
              replace hE := Nat.le_trans hE hgt.size; replace hE2 := Nat.le_trans hE2 hgt.size
              replace hps := Lib.hid hpt
              clear hgt hkt hpc hpt cT3 hn3' hn3

              have hfin := Lib.hid (show schemaFrom k1 ⟨st.l, true⟩ ms es cs = R by rw [hst.out]; simp)
              obtain ⟨Ab, cb, hb0, hb1, _, _, _⟩ := hps.out.cell0
              have hbf := hps.out.unfrozen 1
              clear hb0
              have hpb := Lib.hid hps.out.setBad
              obtain ⟨pc, hpc⟩ := hps.out.blk
              have hk := Lib.hid (TyKept.set (T := [44, 3, 49]) (a := ⟨g, 1, none⟩) hpc (by decide) (.bool true))
              clear hpc
              go_wp2
              go_roundg k1
              case measure => omega
              case rel =>
                refine ⟨_, ms, es, cs, _, _, _, mcs, ecs, E, E2, hpb.out, grown_trans hgr (setCell_grown _ _ _ _), blk_set hr.out (by simp only; omega) _, blk_set hx.out (by simp only; omega) _, own_set hom (by simp only; omega) _, own_set hoe (by simp only; omega) _, own_set hoc (by simp only; omega) _, hmr.out.kept (hk.out.mono (by decide)), her.out.kept (hk.out.mono (by decide)), by rw [setCell_size]; exact hE, by rw [setCell_size]; exact hE2, hfin, by omega, by omega, hzs, hll⟩
            · have hfin := Lib.hid (show schemaFrom k1 (callS (takesS w_call st)) ms es (cs ++ [callV (takesS w_call st)]) = R by rw [hst.out]; simp)
              have hlt := hy3.out rfl
              have hzt := hzs.takes w_call
              have hlt2 : (takesS w_call st).l.length ≤ 20000 := Nat.le_trans (takes_len _ _) hll
              generalize takesS w_call st = tS at cT3 hfin hlt hzt hlt2
              go_wp2_with fail
              refine (cT3.out _ hps.out).mono ?_; rintro e w4 ⟨rfl, hp4, hg4⟩
              obtain ⟨pc, hpc⟩ := hps.out.blk
              have hk4 := TyKept.grown (T := [44, 3, 49]) hg4 hpc (by decide)
              have hgr4 := grown_trans hgr hg4
              have hr4 := Lib.hid (blk_grown hr.out hg4 (by omega)); have hx4 := Lib.hid (blk_grown hx.out hg4 (by omega))
              have hom4 := own_grown hom hg4 (by omega); have hoe4 := own_grown hoe hg4 (by omega); have hoc4 := own_grown hoc hg4 (by omega)
              have hmr4 := Lib.hid (hmr.out.kept (hk4.mono (by decide))); have her4 := Lib.hid (her.out.kept (hk4.mono (by decide)))
              have hE4 := Nat.le_trans hE hg4.size; have hE24 := Nat.le_trans hE2 hg4.size
              have hxs4 := blk_lt hx4.out
              obtain ⟨pd, hpd⟩ := hp4.blk
              replace hp4 := Lib.hid hp4; replace hpd := Lib.hid hpd
              clear hg4 hk4 hpc cT3 hr hx hom hoe hoc hmr her hgr hps hst
              have hcl := blk_cell hx4.out 3
              have hfl := blk_frozen hx4.out 3
              simp only [List.getElem?_toArray, List.getElem?_cons_succ, List.getElem?_cons_zero] at hcl
              have cM := call_calls N g tS w4.drew (hp4.out.drew) (hT.grown (grown_drew hgr4) hgT (by omega)) (by simp; omega) hzt
              unfold methodVal at cM
              have hmn := callS_m tS
              have hzn := hzt.call
              have hln := Nat.le_trans (call_len tS) hlt2
              generalize callV tS = XV at cM hfin
              generalize hqS : callS tS = sN at cM hfin hmn hzn hln
              replace cM := Lib.hid cM
              clear hqS
              go_wp2_with fail
              go_region_law
                (first
                  | (refine step_call (by rfl) 111 _ _ (by rfl) (fun _ _ => by kernel_rfl) (.pointer (some ⟨g, 0, none⟩)) (by rfl) cM.out ?_
                     rintro e wn hpost
                     obtain ⟨rfl, hpn, hgn⟩ := hpost
                     refine ⟨_, rfl, ?_⟩
                     have hxn := Lib.hid (blk_grown hx4.out (grown_undrew hgn) (by omega))
                     have hcn := blk_cell hxn.out 3
                     simp only [List.getElem?_toArray, List.getElem?_cons_succ, List.getElem?_cons_zero] at hcn
                     have han : ∀ o, (wn.alloc o).cell? ⟨bx, 3, none⟩ = some (.slice cA cs.length cc) := fun o => blk_cell (blk_alloc hxn.out o) 3)
                  | (refine step_push (by rfl) _ _ _ (by rfl) (bx + 1) 54 _ 3 48 Tryz.underlying24 infoMethod rfl (by decide) (by decide) (.slice cA cs.length cc) cs.length (methodsCells cs) #[.string XV.name, .string XV.inp, .string XV.outp] wn.heap.size (by rfl)
                      (((own_grown (g := g) (w := w4) hoc4 (grown_undrew hgn) (by omega)).alloc _)) (heap_alloc_new wn _) (by rfl) rfl (by simp [Value.oneCell']) (by omega) (by have := hgn.size; simp at this; simp; omega) ?_
                     intro Ap cp wp hownp hbp hgp
                     have hxp := (hbp.block bx (by omega)).trans (blk_alloc hxn.out _)
                     have hfp := blk_frozen hxp 3
                     have hcp := blk_cell hxp 3
                     simp only [List.getElem?_toArray, List.getElem?_cons_succ, List.getElem?_cons_zero] at hcp
                     replace hxp := Lib.hid hxp)
                  | fail)
              all_goals
                have hsn := hgn.size
                have hsp := hbp.size
                simp at hsn hsp
                have hkn := Lib.hid ((TyKept.alloc (T := [44, 3, 49, 40, 47]) wn (.cells #[.string XV.name, .string XV.inp, .string XV.outp] 54)).trans ((TyKept.row ((own_grown (g := g) (w := w4) hoc4 (grown_undrew hgn) (by omega)).alloc (.cells #[.string XV.name, .string XV.inp, .string XV.outp] 54)) hgp (by decide)).trans (TyKept.set (a := ⟨bx, 3, none⟩) hxp.out (by decide) (.slice Ap (cs.length + 1) cp))))
                have hk := Lib.hid ((TyKept.grown (grown_undrew hgn) hpd.out (by decide)).trans hkn.out)
                have hwn : wn.heap.size + 1 ≤ (wp.setCell ⟨bx, 3, none⟩ (.slice Ap (cs.length + 1) cp)).heap.size := by rw [setCell_size]; exact hsp
                have hsw := Lib.hid (show w4.heap.size ≤ (wp.setCell ⟨bx, 3, none⟩ (.slice Ap (cs.length + 1) cp)).heap.size by omega)
                have hpp := Lib.hid (((hpn.alloc (by omega) (.cells #[.string XV.name, .string XV.inp, .string XV.outp] 54)).below (by omega) hbp).setCell (a := ⟨bx, 3, none⟩) (by simp only; omega) (.slice Ap (cs.length + 1) cp))
                have hrp := Lib.hid (blk_set ((hbp.block w.heap.size (by omega)).trans (blk_alloc (blk_grown hr4.out (grown_undrew hgn) (by omega)) (.cells #[.string XV.name, .string XV.inp, .string XV.outp] 54))) (a := ⟨bx, 3, none⟩) (by simp only; omega) (.slice Ap (cs.length + 1) cp))
                have hgrp := Lib.hid (grown_set (grown_below (grown_trans (grown_trans hgr4 (grown_undrew hgn)) (World.grownBy_alloc wn (.cells #[.string XV.name, .string XV.inp, .string XV.outp] 54) (some g))) hbp (by omega)) (a := ⟨bx, 3, none⟩) (by simp only; omega) (.slice Ap (cs.length + 1) cp))
                have hxq := Lib.hid (setCell_heap hxp.out 3 (.slice Ap (cs.length + 1) cp))
                clear han hcp hfp hcn hcl hfl
                go_wp2
                go_roundg k1
                case measure => omega
                case rel =>
                  refine ⟨sN, ms, es, cs ++ [XV], .slice mA ms.length mc, .slice eA es.length ec, .slice Ap (cs.length + 1) cp, mcs, ecs, E, E2, hpp.out, hgrp.out, hrp.out, hxq.out, own_ty hom4 hk.out (by decide), own_ty hoe4 hk.out (by decide), ?_, hmr4.out.kept (hk.out.mono (by decide)), her4.out.kept (hk.out.mono (by decide)), Nat.le_trans hE4 hsw.out, Nat.le_trans hE24 hsw.out, hfin, by omega, by simp; omega, hzn, hln⟩
                  rw [methodsCells_snoc, List.length_append]; exact own_set hownp (by simp only; omega) _

          · have hfin := Lib.hid (show schemaFrom k1 (enumS (takesS w_enum st)) ms (es ++ [enumV (takesS w_enum st)]) cs = R by rw [hst.out]; simp)
            have hlt := hy2.out rfl
            have hzt := hzs.takes w_enum
            have hlt2 : (takesS w_enum st).l.length ≤ 20000 := Nat.le_trans (takes_len _ _) hll
            generalize takesS w_enum st = tS at cT2 hfin hlt hzt hlt2
            go_wp2_with fail
            refine (cT2.out _ hps.out).mono ?_; rintro e w4 ⟨rfl, hp4, hg4⟩
            obtain ⟨pc, hpc⟩ := hps.out.blk
            have hk4 := TyKept.grown (T := [44, 3, 49]) hg4 hpc (by decide)
            have hgr4 := grown_trans hgr hg4
            have hr4 := Lib.hid (blk_grown hr.out hg4 (by omega)); have hx4 := Lib.hid (blk_grown hx.out hg4 (by omega))
            have hom4 := own_grown hom hg4 (by omega); have hoe4 := own_grown hoe hg4 (by omega); have hoc4 := own_grown hoc hg4 (by omega)
            have hmr4 := Lib.hid (hmr.out.kept (hk4.mono (by decide))); have her4 := Lib.hid (her.out.kept (hk4.mono (by decide)))
            have hE4 := Nat.le_trans hE hg4.size; have hE24 := Nat.le_trans hE2 hg4.size
            have hxs4 := blk_lt hx4.out
            obtain ⟨pd, hpd⟩ := hp4.blk
            replace hp4 := Lib.hid hp4; replace hpd := Lib.hid hpd
            clear hg4 hk4 hpc cT2 hr hx hom hoe hoc hmr her hgr hps hst
            have hcl := blk_cell hx4.out 2
            have hfl := blk_frozen hx4.out 2
            simp only [List.getElem?_toArray, List.getElem?_cons_succ, List.getElem?_cons_zero] at hcl
            have cM := enum_calls N g tS w4.drew (hp4.out.drew) (hT.grown (grown_drew hgr4) hgT (by omega)) (by simp; omega) hzt hlt2
            unfold EnumPost at cM
            have hmn := enumS_m tS
            have hzn := hzt.enum
            have hln := Nat.le_trans (enum_len tS) hlt2
            generalize enumV tS = XV at cM hfin
            generalize hqS : enumS tS = sN at cM hfin hmn hzn hln
            replace cM := Lib.hid cM
            clear hqS
            go_wp2_with fail
            go_region_law
              (first
                | (refine step_call (by rfl) 110 _ _ (by rfl) (fun _ _ => by kernel_rfl) (.pointer (some ⟨g, 0, none⟩)) (by rfl) cM.out ?_
                   rintro e wn hpost
                   obtain ⟨vf, rfl, hpn, hgn, hfn⟩ := hpost
                   obtain ⟨fA, fc, rfl⟩ := own_slice hfn
                   refine ⟨_, rfl, ?_⟩
                   have hxn := Lib.hid (blk_grown hx4.out (grown_undrew hgn) (by omega))
                   have hcn := blk_cell hxn.out 2
                   simp only [List.getElem?_toArray, List.getElem?_cons_succ, List.getElem?_cons_zero] at hcn
                   have han : ∀ o, (wn.alloc o).cell? ⟨bx, 2, none⟩ = some (.slice eA es.length ec) := fun o => blk_cell (blk_alloc hxn.out o) 2)
                | (refine step_push (by rfl) _ _ _ (by rfl) (bx + 1) 47 _ 2 40 Tryz.underlying23 infoEnum rfl (by decide) (by decide) (.slice eA es.length ec) es.length ecs #[.string XV.name, .slice fA XV.values.length fc] wn.heap.size (by rfl)
                    (((own_grown (g := g) (w := w4) hoe4 (grown_undrew hgn) (by omega)).alloc _)) (heap_alloc_new wn _) (by rfl) rfl (by simp [Value.oneCell']) (by omega) (by have := hgn.size; simp at this; simp; omega) ?_
                   intro Ap cp wp hownp hbp hgp
                   have hxp := (hbp.block bx (by omega)).trans (blk_alloc hxn.out _)
                   have hfp := blk_frozen hxp 2
                   have hcp := blk_cell hxp 2
                   simp only [List.getElem?_toArray, List.getElem?_cons_succ, List.getElem?_cons_zero] at hcp
                   replace hxp := Lib.hid hxp)
                | fail)
            all_goals
              have hsn := hgn.size
              have hsp := hbp.size
              simp at hsn hsp
              have hkn := Lib.hid ((TyKept.alloc (T := [44, 3, 49, 40, 54]) wn (.cells #[.string XV.name, .slice fA XV.values.length fc] 47)).trans ((TyKept.row ((own_grown (g := g) (w := w4) hoe4 (grown_undrew hgn) (by omega)).alloc (.cells #[.string XV.name, .slice fA XV.values.length fc] 47)) hgp (by decide)).trans (TyKept.set (a := ⟨bx, 2, none⟩) hxp.out (by decide) (.slice Ap (es.length + 1) cp))))
              have hk := Lib.hid ((TyKept.grown (grown_undrew hgn) hpd.out (by decide)).trans hkn.out)
              have hwn : wn.heap.size + 1 ≤ (wp.setCell ⟨bx, 2, none⟩ (.slice Ap (es.length + 1) cp)).heap.size := by rw [setCell_size]; exact hsp
              have hsw := Lib.hid (show w4.heap.size ≤ (wp.setCell ⟨bx, 2, none⟩ (.slice Ap (es.length + 1) cp)).heap.size by omega)
              have hfe : ∀ k, (Value.slice fA XV.values.length fc).ownBlock = some k → k < (wp.setCell ⟨bx, 2, none⟩ (.slice Ap (es.length + 1) cp)).heap.size := fun k hk0 => Nat.lt_of_lt_of_le (hfn.lt k hk0).2 (Nat.le_trans (by simp) hwn)
              have hwe : w4.drew.heap.size + 1 ≤ (wp.setCell ⟨bx, 2, none⟩ (.slice Ap (es.length + 1) cp)).heap.size := by simp; omega
              have hpp := Lib.hid (((hpn.alloc (by omega) (.cells #[.string XV.name, .slice fA XV.values.length fc] 47)).below (by omega) hbp).setCell (a := ⟨bx, 2, none⟩) (by simp only; omega) (.slice Ap (es.length + 1) cp))
              have hrp := Lib.hid (blk_set ((hbp.block w.heap.size (by omega)).trans (blk_alloc (blk_grown hr4.out (grown_undrew hgn) (by omega)) (.cells #[.string XV.name, .slice fA XV.values.length fc] 47))) (a := ⟨bx, 2, none⟩) (by simp only; omega) (.slice Ap (es.length + 1) cp))
              have hgrp := Lib.hid (grown_set (grown_below (grown_trans (grown_trans hgr4 (grown_undrew hgn)) (World.grownBy_alloc wn (.cells #[.string XV.name, .slice fA XV.values.length fc] 47) (some g))) hbp (by omega)) (a := ⟨bx, 2, none⟩) (by simp only; omega) (.slice Ap (es.length + 1) cp))
              have hxq := Lib.hid (setCell_heap hxp.out 2 (.slice Ap (es.length + 1) cp))
              clear han hcp hfp hcn hcl hfl
              go_wp2
              go_roundg k1
              case measure => omega
              case rel =>
                refine ⟨sN, ms, es ++ [XV], cs, .slice mA ms.length mc, .slice Ap (es.length + 1) cp, .slice cA cs.length cc, mcs, ecs ++ [.string XV.name, .slice fA XV.values.length fc], E, (wp.setCell ⟨bx, 2, none⟩ (.slice Ap (es.length + 1) cp)).heap.size, hpp.out, hgrp.out, hrp.out, hxq.out, own_ty hom4 hk.out (by decide), ?_, own_ty hoc4 hk.out (by decide), hmr4.out.kept (hk.out.mono (by decide)), EnumRow.snoc (own_ty hfn hkn.out (by decide)) hfe hwe ((her4.out.kept (hk.out.mono (by decide))).wider (by simp; omega) (Nat.le_refl _)), Nat.le_trans hE4 hsw.out, Nat.le_refl _, hfin, by omega, by simp; omega, hzn, hln⟩
                rw [List.length_append]; exact own_set hownp (by simp only; omega) _

        · have hfin := Lib.hid (show schemaFrom k1 (messageS (takesS w_message st)) (ms ++ [messageV (takesS w_message st)]) es cs = R by rw [hst.out]; simp)
          have hlt := hy1.out rfl
          have hzt := hzs.takes w_message
          have hlt2 : (takesS w_message st).l.length ≤ 20000 := Nat.le_trans (takes_len _ _) hll
          generalize takesS w_message st = tS at cT1 hfin hlt hzt hlt2
          go_wp2_with fail
          refine (cT1.out _ hps.out).mono ?_; rintro e w4 ⟨rfl, hp4, hg4⟩
          obtain ⟨pc, hpc⟩ := hps.out.blk
          have hk4 := TyKept.grown (T := [44, 3, 49]) hg4 hpc (by decide)
          have hgr4 := grown_trans hgr hg4
          have hr4 := Lib.hid (blk_grown hr.out hg4 (by omega)); have hx4 := Lib.hid (blk_grown hx.out hg4 (by omega))
          have hom4 := own_grown hom hg4 (by omega); have hoe4 := own_grown hoe hg4 (by omega); have hoc4 := own_grown hoc hg4 (by omega)
          have hmr4 := Lib.hid (hmr.out.kept (hk4.mono (by decide))); have her4 := Lib.hid (her.out.kept (hk4.mono (by decide)))
          have hE4 := Nat.le_trans hE hg4.size; have hE24 := Nat.le_trans hE2 hg4.size
          have hxs4 := blk_lt hx4.out
          obtain ⟨pd, hpd⟩ := hp4.blk
          replace hp4 := Lib.hid hp4; replace hpd := Lib.hid hpd
          clear hg4 hk4 hpc cT1 hr hx hom hoe hoc hmr her hgr hps hst
          have hcl := blk_cell hx4.out 1
          have hfl := blk_frozen hx4.out 1
          simp only [List.getElem?_toArray, List.getElem?_cons_succ, List.getElem?_cons_zero] at hcl
          have cM := message_calls N g tS w4.drew (hp4.out.drew) (hT.grown (grown_drew hgr4) hgT (by omega)) (by simp; omega) hzt hlt2
          unfold MessagePost at cM
          have hmn := messageS_m tS
          have hzn := hzt.message
          have hln := Nat.le_trans (message_len tS) hlt2
          generalize messageV tS = XV at cM hfin
          generalize hqS : messageS tS = sN at cM hfin hmn hzn hln
          replace cM := Lib.hid cM
          clear hqS
          go_wp2_with fail
          go_region_law
            (first
              | (refine step_call (by rfl) 109 _ _ (by rfl) (fun _ _ => by kernel_rfl) (.pointer (some ⟨g, 0, none⟩)) (by rfl) cM.out ?_
                 rintro e wn hpost
                 obtain ⟨vf, vr, rfl, hpn, hgn, hfn, hrn⟩ := hpost
                 obtain ⟨fA, fc, rfl⟩ := own_slice hfn
                 obtain ⟨rA, rc, rfl⟩ := own_slice hrn
                 refine ⟨_, rfl, ?_⟩
                 have hxn := Lib.hid (blk_grown hx4.out (grown_undrew hgn) (by omega))
                 have hcn := blk_cell hxn.out 1
                 simp only [List.getElem?_toArray, List.getElem?_cons_succ, List.getElem?_cons_zero] at hcn
                 have han : ∀ o, (wn.alloc o).cell? ⟨bx, 1, none⟩ = some (.slice mA ms.length mc) := fun o => blk_cell (blk_alloc hxn.out o) 1)
              | (refine step_push (by rfl) _ _ _ (by rfl) (bx + 1) 40 _ 3 64 Tryz.underlying22 infoMessage rfl (by decide) (by decide) (.slice mA ms.length mc) ms.length mcs #[.string XV.name, .slice fA XV.fields.length fc, .slice rA XV.reserved.length rc] wn.heap.size (by rfl)
                  (((own_grown (g := g) (w := w4) hom4 (grown_undrew hgn) (by omega)).alloc _)) (heap_alloc_new wn _) (by rfl) rfl (by simp [Value.oneCell']) (by omega) (by have := hgn.size; simp at this; simp; omega) ?_
                 intro Ap cp wp hownp hbp hgp
                 have hxp := (hbp.block bx (by omega)).trans (blk_alloc hxn.out _)
                 have hfp := blk_frozen hxp 1
                 have hcp := blk_cell hxp 1
                 simp only [List.getElem?_toArray, List.getElem?_cons_succ, List.getElem?_cons_zero] at hcp
                 replace hxp := Lib.hid hxp)
              | fail)
          all_goals
            have hsn := hgn.size
            have hsp := hbp.size
            simp at hsn hsp
            have hkn := Lib.hid ((TyKept.alloc (T := [44, 3, 49, 47, 54]) wn (.cells #[.string XV.name, .slice fA XV.fields.length fc, .slice rA XV.reserved.length rc] 40)).trans ((TyKept.row ((own_grown (g := g) (w := w4) hom4 (grown_undrew hgn) (by omega)).alloc (.cells #[.string XV.name, .slice fA XV.fields.length fc, .slice rA XV.reserved.length rc] 40)) hgp (by decide)).trans (TyKept.set (a := ⟨bx, 1, none⟩) hxp.out (by decide) (.slice Ap (ms.length + 1) cp))))
            have hk := Lib.hid ((TyKept.grown (grown_undrew hgn) hpd.out (by decide)).trans hkn.out)
            have hwn : wn.heap.size + 1 ≤ (wp.setCell ⟨bx, 1, none⟩ (.slice Ap (ms.length + 1) cp)).heap.size := by rw [setCell_size]; exact hsp
            have hsw := Lib.hid (show w4.heap.size ≤ (wp.setCell ⟨bx, 1, none⟩ (.slice Ap (ms.length + 1) cp)).heap.size by omega)
            have hfe : ∀ k, (Value.slice fA XV.fields.length fc).ownBlock = some k → k < (wp.setCell ⟨bx, 1, none⟩ (.slice Ap (ms.length + 1) cp)).heap.size := fun k hk0 => Nat.lt_of_lt_of_le (hfn.lt k hk0).2 (Nat.le_trans (by simp) hwn)
            have hre : ∀ k, (Value.slice rA XV.reserved.length rc).ownBlock = some k → k < (wp.setCell ⟨bx, 1, none⟩ (.slice Ap (ms.length + 1) cp)).heap.size := fun k hk0 => Nat.lt_of_lt_of_le (hrn.lt k hk0).2 (Nat.le_trans (by simp) hwn)
            have hwe : w4.drew.heap.size + 1 ≤ (wp.setCell ⟨bx, 1, none⟩ (.slice Ap (ms.length + 1) cp)).heap.size := by simp; omega
            have hpp := Lib.hid (((hpn.alloc (by omega) (.cells #[.string XV.name, .slice fA XV.fields.length fc, .slice rA XV.reserved.length rc] 40)).below (by omega) hbp).setCell (a := ⟨bx, 1, none⟩) (by simp only; omega) (.slice Ap (ms.length + 1) cp))
            have hrp := Lib.hid (blk_set ((hbp.block w.heap.size (by omega)).trans (blk_alloc (blk_grown hr4.out (grown_undrew hgn) (by omega)) (.cells #[.string XV.name, .slice fA XV.fields.length fc, .slice rA XV.reserved.length rc] 40))) (a := ⟨bx, 1, none⟩) (by simp only; omega) (.slice Ap (ms.length + 1) cp))
            have hgrp := Lib.hid (grown_set (grown_below (grown_trans (grown_trans hgr4 (grown_undrew hgn)) (World.grownBy_alloc wn (.cells #[.string XV.name, .slice fA XV.fields.length fc, .slice rA XV.reserved.length rc] 40) (some g))) hbp (by omega)) (a := ⟨bx, 1, none⟩) (by simp only; omega) (.slice Ap (ms.length + 1) cp))
            have hxq := Lib.hid (setCell_heap hxp.out 1 (.slice Ap (ms.length + 1) cp))
            clear han hcp hfp hcn hcl hfl
            go_wp2
            go_roundg k1
            case measure => omega
            case rel =>
              refine ⟨sN, ms ++ [XV], es, cs, .slice Ap (ms.length + 1) cp, .slice eA es.length ec, .slice cA cs.length cc, mcs ++ [.string XV.name, .slice fA XV.fields.length fc, .slice rA XV.reserved.length rc], ecs, (wp.setCell ⟨bx, 1, none⟩ (.slice Ap (ms.length + 1) cp)).heap.size, E2, hpp.out, hgrp.out, hrp.out, hxq.out, ?_, own_ty hoe4 hk.out (by decide), own_ty hoc4 hk.out (by decide), MsgRow.snoc (own_ty hfn hkn.out (by decide)) (own_ty hrn hkn.out (by decide)) hfe hre hwe ((hmr4.out.kept (hk.out.mono (by decide))).wider (by simp; omega) (Nat.le_refl _)), her4.out.kept (hk.out.mono (by decide)), Nat.le_refl _, Nat.le_trans hE24 hsw.out, hfin, by omega, by simp; omega, hzn, hln⟩
              rw [List.length_append]; exact own_set hownp (by simp only; omega) _

end Go.Proofs.YtkpgaccgcdoijaaGreatDoor

import Derived.Test.YtkpgaccgcdoijaaGreatDoorZOr
namespace Go.Proofs.YtkpgaccgcdoijaaGreatDoor
open Go.RowKit

/-- The elements ahead of number i under f, the others as they were. -/
def turnTo {α : Type} (f : α → α) (l : List α) (i : Nat) : List α := (l.take i).map f ++ l.drop i
theorem turnTo_zero {α : Type} (f : α → α) (l : List α) : turnTo f l 0 = l := by simp [turnTo]
theorem turnTo_full {α : Type} (f : α → α) (l : List α) : turnTo f l l.length = l.map f := by simp [turnTo]
theorem turnTo_at {α : Type} (f : α → α) (l : List α) (i : Nat) (h : i < l.length) : turnTo f l i = (l.take i).map f ++ l[i] :: l.drop (i + 1) := by
  unfold turnTo; rw [List.drop_eq_getElem_cons h]
theorem turnTo_next {α : Type} (f : α → α) (l : List α) (i : Nat) (h : i < l.length) : turnTo f l (i + 1) = (l.take i).map f ++ f l[i] :: l.drop (i + 1) := by
  unfold turnTo; rw [List.take_succ_eq_append_getElem h, List.map_append, List.append_assoc]; rfl

theorem OrdS.drew {w : World} {cs : Array Value} {bt E : Nat} {x : SchemaD} {ms : List MessageD} {es : List EnumD} {v1 v2 v3 : Value} {W : World} (h : OrdS w cs bt E x ms es v1 v2 v3 W) : OrdS w cs bt E x ms es v1 v2 v3 W.drew :=
  ⟨h.below.drew, h.s, h.t, h.lt, h.own.kept (TyKept.drew W), h.size⟩

set_option maxHeartbeats 16000000 in
set_option maxRecDepth 100000 in
theorem printOrder_calls (x : SchemaD) (vm ve vc : Value) (w : World) (h : SchemaRd w (fun k => k < w.heap.size) x vm ve vc) (hx : x.Reach) (hf : x.Fit) (hT : Tabs w) :
    Calls Tryz.prog 6 #[.agg #[.string x.name, vm, ve, vc]] w fun e w' => e = .returned (.bool true) ∧ Below w.heap.size w w' := by
  have hS := h
  obtain ⟨mcs, ecs, h1, h2, h3, h4, h5⟩ := h
  obtain ⟨mA, mc, rfl⟩ := h1.slice
  obtain ⟨eA, ec, rfl⟩ := h2.slice
  obtain ⟨cA, cc, rfl⟩ := h3.slice
  have hck : CkS w #[.string x.name, .slice mA x.messages.length mc, .slice eA x.enums.length ec, .slice cA x.methods.length cc] (w.alloc (.cells #[.string x.name, .slice mA x.messages.length mc, .slice eA x.enums.length ec, .slice cA x.methods.length cc] 26)) :=
    ⟨(Below.refl w.heap.size w).alloc (Nat.le_refl _) _, heap_alloc_new w _, by simp⟩
  have hSW : ∀ W, Below w.heap.size w W → SchemaRd W (fun k => k < W.heap.size) x (.slice mA x.messages.length mc) (.slice eA x.enums.length ec) (.slice cA x.methods.length cc) := fun W hW => hS.kept hW.block (fun j hj => Nat.lt_of_lt_of_le hj hW.size)
  have cF := few_calls x _ _ _ _ (hSW _ hck.below) hx hf
  have hc0 := blk_cell hck.s 0
  have hc1 := blk_cell hck.s 1
  have hc2 := blk_cell hck.s 2
  have hc3 := blk_cell hck.s 3
  simp only [List.getElem?_toArray, List.getElem?_cons_succ, List.getElem?_cons_zero] at hc0 hc1 hc2 hc3
  replace h1 := Lib.hid h1; replace h2 := Lib.hid h2; replace h3 := Lib.hid h3; replace h4 := Lib.hid h4; replace h5 := Lib.hid h5; replace hx := Lib.hid hx; replace hf := Lib.hid hf; replace hT := Lib.hid hT; replace hS := Lib.hid hS; replace hSW := Lib.hid hSW; replace hck := Lib.hid hck; replace cF := Lib.hid cF
  go_enter Tryz.func6, Tryz.ntmps6
  go_wp2_with fail
  refine cF.out.mono ?_; rintro e w1 ⟨rfl, hb1⟩
  have hck1 := hck.out.under hb1
  have hd0 := blk_cell hck1.s 0
  have hd1 := blk_cell hck1.s 1
  have hd2 := blk_cell hck1.s 2
  have hd3 := blk_cell hck1.s 3
  simp only [List.getElem?_toArray, List.getElem?_cons_succ, List.getElem?_cons_zero] at hd0 hd1 hd2 hd3
  clear hc0 hc1 hc2 hc3
  replace hb1 := Lib.hid hb1
  cases hfew : fewB x with
  | false =>
    have cA := awake_calls w1 (hT.out.below hck1.below)
    replace cA := Lib.hid cA; replace hck1 := Lib.hid hck1; replace hfew := Lib.hid hfew
    go_wp2_with fail
    refine cA.out.mono ?_; rintro e w2 ⟨rfl, hb2⟩
    have hfin := Lib.hid (hck1.out.under hb2).below
    replace hb2 := Lib.hid hb2
    go_wp2
    go_ret
    exact ⟨rfl, hfin.out⟩
  | true =>
    have hbr := few_brief hfew
    have cS := schema_copied x _ _ _ w1 (hSW.out _ hck1.below) hbr.mild
    replace hfew := Lib.hid hfew
    replace cS := Lib.hid cS; replace hck1 := Lib.hid hck1; replace hbr := Lib.hid hbr
    go_wp2_with fail
    refine cS.out.mono ?_; rintro e w2 ⟨um, ue, uc, rfl, ho2, hb2⟩
    have hck2 := hck1.out.under hb2
    have cC := check_calls x um ue uc w2 (SchemaRd.own ho2) (hT.out.below hck2.below) hf.out
    have hd0 := blk_cell hck2.s 0
    have hd1 := blk_cell hck2.s 1
    have hd2 := blk_cell hck2.s 2
    have hd3 := blk_cell hck2.s 3
    simp only [List.getElem?_toArray, List.getElem?_cons_succ, List.getElem?_cons_zero] at hd0 hd1 hd2 hd3
    replace cC := Lib.hid cC; replace hck2 := Lib.hid hck2; replace ho2 := Lib.hid ho2; replace hb2 := Lib.hid hb2
    go_wp2_with fail
    refine cC.out.mono ?_; rintro e w3 ⟨rfl, hb3⟩
    have hck3 := hck2.out.under hb3
    have hd0 := blk_cell hck3.s 0
    have hd1 := blk_cell hck3.s 1
    have hd2 := blk_cell hck3.s 2
    have hd3 := blk_cell hck3.s 3
    simp only [List.getElem?_toArray, List.getElem?_cons_succ, List.getElem?_cons_zero] at hd0 hd1 hd2 hd3
    replace hb3 := Lib.hid hb3
    by_cases hz : checkP x = 0
    · have hz' : ((checkP x : Int) != 0) = false := by simpa using hz
      have hmo := check_modest hz
      replace hz := Lib.hid hz
      have cS2 := schema_copied x _ _ _ w3 (hSW.out _ hck3.below) hmo.mild
      replace cS2 := Lib.hid cS2; replace hck3 := Lib.hid hck3; replace hmo := Lib.hid hmo
      go_wp2_with fail
      refine cS2.out.mono ?_; rintro e w4 ⟨tm, te, tc, rfl, ho4, hb4⟩
      obtain ⟨tmA, tmc, rfl⟩ := own_slice ho4.choose_spec.choose_spec.1
      obtain ⟨teA, tec, rfl⟩ := own_slice ho4.choose_spec.choose_spec.2.1
      obtain ⟨tcA, tcc, rfl⟩ := own_slice ho4.choose_spec.choose_spec.2.2.1
      have hck4 := hck3.out.under hb4
      have hsz3 := hck3.out.size
      have hO : OrdS w #[.string x.name, .slice mA x.messages.length mc, .slice eA x.enums.length ec, .slice cA x.methods.length cc] w4.heap.size w4.heap.size x x.messages x.enums (.slice tmA x.messages.length tmc) (.slice teA x.enums.length tec) (.slice tcA x.methods.length tcc) (w4.alloc (.cells #[.string x.name, .slice tmA x.messages.length tmc, .slice teA x.enums.length tec, .slice tcA x.methods.length tcc] 26)) :=
        ⟨(hck4.alloc _).below, (hck4.alloc _).s, heap_alloc_new w4 _, by have := hck4.size; omega, (ho4.kept (TyKept.alloc w4 _)).wider (by omega) (Nat.le_refl _), by rw [sizeAlloc]; omega⟩
      replace ho4 := Lib.hid ho4; replace hb4 := Lib.hid hb4; replace hck4 := Lib.hid hck4; replace hO := Lib.hid hO
      clear hd0 hd1 hd2 hd3
      go_wp2
      go_loopw [4] (fun t wr => ∃ i : Nat, i ≤ x.messages.length ∧ t = .int .i64 i ∧ OrdS w #[.string x.name, .slice mA x.messages.length mc, .slice eA x.enums.length ec, .slice cA x.methods.length cc] w4.heap.size w4.heap.size x (turnTo revM x.messages i) x.enums (.slice tmA x.messages.length tmc) (.slice teA x.enums.length tec) (.slice tcA x.methods.length tcc) wr) (fun t _ => x.messages.length - (intOf t).toNat)
      case atStart => exact ⟨0, Nat.zero_le _, rfl, by rw [turnTo_zero]; exact hO.out⟩
      case round =>
        obtain ⟨i, hi, rfl, ho⟩ := hrel
        have ht1 := blk_cell ho.t 1
        have hs1 := blk_cell ho.s 1
        simp only [List.getElem?_toArray, List.getElem?_cons_succ, List.getElem?_cons_zero] at ht1 hs1
        by_cases hlt : i < x.messages.length
        · have hlt' : (i : Int) < (x.messages.length : Int) := by omega
          have hAl : ((x.messages.take i).map revM).length = i := by rw [List.length_map, List.length_take]; omega
          rw [turnTo_at _ _ _ hlt] at ho
          have htk := turnTo_next revM x.messages i hlt
          obtain ⟨b, bo, bc, hv, _, _⟩ := h1.out.form (by omega)
          injection hv with hv1 hv2 hv3
          subst hv1; subst hv3
          obtain ⟨vfs, vrs, q0, q1, q2, gfs, grs⟩ := h4.out.get i hlt
          obtain ⟨sfA, sfc, rfl⟩ := gfs.slice
          obtain ⟨srA, src, rfl⟩ := grs.slice
          have hsrc : ∀ W, Below w.heap.size w W → W.cell? ⟨b, bo + i * 3 + 1, none⟩ = some (.slice sfA x.messages[i].fields.length sfc) ∧ W.cell? ⟨b, bo + i * 3 + 2, none⟩ = some (.slice srA x.messages[i].reserved.length src) := fun W hW =>
            ⟨h1.out.at_ (w' := W) (by omega) hW.block i 1 (by omega) q1, h1.out.at_ (w' := W) (by omega) hW.block i 2 (by omega) q2⟩
          have hmm := hmo.out.fields x.messages[i] (List.getElem_mem hlt)
          obtain ⟨A, hA⟩ : ∃ A, A = (x.messages.take i).map revM := ⟨_, rfl⟩
          obtain ⟨r, hrr⟩ : ∃ r, r = x.messages.drop (i + 1) := ⟨_, rfl⟩
          rw [← hA, ← hrr] at ho htk
          rw [← hA] at hAl
          obtain ⟨g, c, vf, vr, hv, cf1, cr1, of, or, pf, pr⟩ := ho.msg
          injection hv with hv1 hv2 hv3; clear hv2
          subst hv1; subst hv3
          rw [hAl] at cf1 cr1
          generalize x.messages[i] = m at *
          obtain ⟨tfA, tfc, rfl⟩ := own_slice of
          obtain ⟨wk, rfl⟩ : ∃ wo : World, wo = wr := ⟨_, rfl⟩
          replace ho := Lib.hid ho; replace of := Lib.hid of; replace or := Lib.hid or; replace pf := Lib.hid pf; replace pr := Lib.hid pr; replace hsrc := Lib.hid hsrc; replace gfs := Lib.hid gfs; replace grs := Lib.hid grs; replace hA := Lib.hid hA; replace hrr := Lib.hid hrr; replace hmm := Lib.hid hmm; replace htk := Lib.hid htk; replace hAl := Lib.hid hAl
          clear q0 q1 q2
          go_wp2
          go_loopw [6] (fun t wr => ∃ k : Nat, k ≤ m.fields.length ∧ t = .int .i64 k ∧ OrdS w #[.string x.name, .slice (some ⟨b, bo, none⟩) x.messages.length mc, .slice eA x.enums.length ec, .slice cA x.methods.length cc] w4.heap.size w4.heap.size x (A ++ ⟨m.name, (turnL m.fields k), m.reserved⟩ :: r) x.enums (.slice (some ⟨g, 0, none⟩) x.messages.length tmc) (.slice teA x.enums.length tec) (.slice tcA x.methods.length tcc) wr) (fun t _ => m.fields.length - (intOf t).toNat)
          case atStart => exact ⟨0, Nat.zero_le _, rfl, by rw [turnL_zero]; exact ho.out⟩
          case round =>
            obtain ⟨k, hk, rfl, hok⟩ := hrel
            by_cases hltk : k < m.fields.length
            · have hltk' : (k : Int) < (m.fields.length : Int) := by omega
              obtain ⟨g', c', vf2, vr2, hv, cf2, cr2, of2, or2, pf2, pr2⟩ := hok.msg
              injection hv with hv1 hv2 hv3; clear hv2
              injection hv1 with hv1
              injection hv1 with hv1 _ _
              subst hv1; subst hv3
              rw [hAl.out] at cf2 cr2
              simp only at of2
              rw [turnL_length _ _ hk] at of2
              obtain ⟨gf, cf, rfl, hcellf, _⟩ := own_form of2 (by omega)
              obtain ⟨curf, hcurf⟩ := own_cells of2
              obtain ⟨fb, fo, fc, hv, _, _⟩ := gfs.out.form (by omega)
              injection hv with hx1 hx2 hx3
              subst hx1; subst hx3
              have hfa : ∀ q v, q < 5 → (fieldCells m.fields[k])[q]? = some v → wr.cell? ⟨fb, fo + k * 5 + q, none⟩ = some v := fun q v hq hv =>
                gfs.out.at_ (by omega) hok.below.block k q (by omega) ((flatMap_at fieldCells 5 (fun _ => rfl) m.fields k hltk q hq).trans hv)
              have hst := turnL_step m.fields k hltk
              obtain ⟨j, hj⟩ : ∃ j : Nat, j = m.fields.length - 1 - k := ⟨_, rfl⟩
              rw [← hj] at hst
              have hjl : j < m.fields.length := by omega
              have hjlz : (j : Int) < (m.fields.length : Int) := by omega
              have hjz : (m.fields.length : Int) - 1 - (k : Int) = (j : Int) := by omega
              have hn1 : (1 : Int) ≤ (m.fields.length : Int) := by omega
              have hw1 : IntKind.i64.wrap ((m.fields.length : Int) - 1) = (m.fields.length : Int) - 1 := IntWalk.i64_in _ (by have := hmm.out.1; omega)
              have hw2 : IntKind.i64.wrap ((m.fields.length : Int) - 1 - (k : Int)) = (j : Int) := (IntWalk.i64_in _ (by have := hmm.out.1; omega)).trans hjz
              have hw3 : IntKind.i64.wrap (j : Int) = (j : Int) := IntWalk.i64_in _ (by have := hmm.out.1; omega)
              have hsx := (hsrc.out wr hok.below).1
              have ht1 := blk_cell hok.t 1
              have hs1 := blk_cell hok.s 1
              simp only [List.getElem?_toArray, List.getElem?_cons_succ, List.getElem?_cons_zero] at ht1 hs1
              have hcl : ∀ q, q < 5 → ∃ v, wr.cell? ⟨gf, j * 5 + q, none⟩ = some v := fun q hq => by
                rw [hcellf _ (by omega)]
                exact ⟨_, List.getElem?_eq_getElem (by rw [of2.1]; omega)⟩
              obtain ⟨z0, e0⟩ := hcl 0 (by omega)
              obtain ⟨z1, e1⟩ := hcl 1 (by omega)
              obtain ⟨z2, e2⟩ := hcl 2 (by omega)
              obtain ⟨z3, e3⟩ := hcl 3 (by omega)
              obtain ⟨z4, e4⟩ := hcl 4 (by omega)
              simp only [Nat.add_zero] at e0
              have hfz : ∀ q, wr.frozen? ⟨gf, q, none⟩ = false := blk_frozen hcurf
              generalize hFk : m.fields[k] = f at hfa hst
              obtain ⟨fn, ft, fl, fk, ftn⟩ := f
              have a0 := hfa 0 _ (by decide) rfl
              have a1 := hfa 1 _ (by decide) rfl
              have a2 := hfa 2 _ (by decide) rfl
              have a3 := hfa 3 _ (by decide) rfl
              have a4 := hfa 4 _ (by decide) rfl
              simp only [Nat.add_zero] at a0
              obtain ⟨wj, rfl⟩ : ∃ wo : World, wo = wr := ⟨_, rfl⟩
              have hS0 := (⟨ht1, cf2, hs1, hsx, a0, a1, a2, a3, a4⟩ : wj.drew.cell? ⟨w4.heap.size, 1, none⟩ = _ ∧ wj.drew.cell? ⟨g, i * 3 + 1, none⟩ = _ ∧ wj.drew.cell? ⟨w.heap.size, 1, none⟩ = _ ∧ wj.drew.cell? ⟨b, bo + i * 3 + 1, none⟩ = _ ∧ wj.drew.cell? ⟨fb, fo + k * 5, none⟩ = _ ∧ wj.drew.cell? ⟨fb, fo + k * 5 + 1, none⟩ = _ ∧ wj.drew.cell? ⟨fb, fo + k * 5 + 2, none⟩ = _ ∧ wj.drew.cell? ⟨fb, fo + k * 5 + 3, none⟩ = _ ∧ wj.drew.cell? ⟨fb, fo + k * 5 + 4, none⟩ = _)
              have hg5 := grown_trans (grown_trans (grown_trans (grown_trans (setCell_grown wj gf (j * 5) (.string fn)) (setCell_grown _ gf (j * 5 + 1) (.int .i64 ft))) (setCell_grown _ gf (j * 5 + 2) (.int .i64 fl))) (setCell_grown _ gf (j * 5 + 3) (.int .i64 fk))) (setCell_grown _ gf (j * 5 + 4) (.string ftn))
              have ho5 := own_put1 (own_put1 (own_put1 (own_put1 (own_put1 of2 (j * 5) (.string fn)) (j * 5 + 1) (.int .i64 ft)) (j * 5 + 2) (.int .i64 fl)) (j * 5 + 3) (.int .i64 fk)) (j * 5 + 4) (.string ftn)
              have h5e := set5 ⟨fn, ft, fl, fk, ftn⟩ (turnL m.fields k) j (by rw [turnL_length _ _ hk]; exact hjl)
              simp only at h5e
              rw [show fieldsCells (turnL m.fields k) = (turnL m.fields k).flatMap fieldCells from rfl, h5e, hst] at ho5
              have hfin := Lib.hid (pf2 _ (turnL m.fields (k + 1)) hg5 (by rw [turnL_length _ _ (by omega)]; exact ho5))
              replace hok := Lib.hid hok; replace of2 := Lib.hid of2; replace pf2 := Lib.hid pf2; replace hcellf := Lib.hid hcellf; replace hcurf := Lib.hid hcurf; replace hg5 := Lib.hid hg5; replace ho5 := Lib.hid ho5; replace hst := Lib.hid hst; replace hj := Lib.hid hj; replace hFk := Lib.hid hFk; replace or2 := Lib.hid or2; replace pr2 := Lib.hid pr2; replace cr2 := Lib.hid cr2
              try clear hfa
              try clear hcl
              try clear h5e
              go_upto_region 11 with fail
              refine wp_region_wait (fun W => W.cell? ⟨w4.heap.size, 1, none⟩ = some (.slice (some ⟨g, 0, none⟩) x.messages.length tmc) ∧ W.cell? ⟨g, i * 3 + 1, none⟩ = some (.slice (some ⟨gf, 0, none⟩) m.fields.length cf) ∧ W.cell? ⟨w.heap.size, 1, none⟩ = some (.slice (some ⟨b, bo, none⟩) x.messages.length mc) ∧ W.cell? ⟨b, bo + i * 3 + 1, none⟩ = some (.slice (some ⟨fb, fo, none⟩) m.fields.length sfc) ∧ W.cell? ⟨fb, fo + k * 5, none⟩ = some (.string fn) ∧ W.cell? ⟨fb, fo + k * 5 + 1, none⟩ = some (.int .i64 ft) ∧ W.cell? ⟨fb, fo + k * 5 + 2, none⟩ = some (.int .i64 fl) ∧ W.cell? ⟨fb, fo + k * 5 + 3, none⟩ = some (.int .i64 fk) ∧ W.cell? ⟨fb, fo + k * 5 + 4, none⟩ = some (.string ftn)) 20 (by kernel_rfl) ?_
              refine wpAnyG_take (L := 20) (i := 0) (v := .pointer (some ⟨w4.heap.size, 1, none⟩)) rfl (by kernel_rfl) (by kernel_rfl) (by kernel_rfl) (by kernel_rfl) (fun _ _ _ h => h) (by rfl) hS0 (fun wS hS => ?_) ?_
              · obtain ⟨hq0, hq1, hq2, hq3, hq4, hq5, hq6, hq7, hq8⟩ := hS
                first | (go_simp; done) | (go_simp; with_reducible rfl)
              try simp only [List.getElem_toArray, List.getElem_cons_succ, List.getElem_cons_zero, Act.put, List.setIfInBounds_toArray, List.set_cons_zero, List.set_cons_succ]
              refine wpAnyG_take (L := 20) (i := 1) (v := .slice (some ⟨g, 0, none⟩) x.messages.length tmc) rfl (by kernel_rfl) (by kernel_rfl) (by kernel_rfl) (by kernel_rfl) (fun _ _ _ h => h) (by rfl) hS0 (fun wS hS => ?_) ?_
              · obtain ⟨hq0, hq1, hq2, hq3, hq4, hq5, hq6, hq7, hq8⟩ := hS
                first | (go_simp; done) | (go_simp; with_reducible rfl)
              try simp only [List.getElem_toArray, List.getElem_cons_succ, List.getElem_cons_zero, Act.put, List.setIfInBounds_toArray, List.set_cons_zero, List.set_cons_succ]
              refine wpAnyG_take (L := 20) (i := 2) (v := .int .i64 i) rfl (by kernel_rfl) (by kernel_rfl) (by kernel_rfl) (by kernel_rfl) (fun _ _ _ h => h) (by rfl) hS0 (fun wS hS => ?_) ?_
              · obtain ⟨hq0, hq1, hq2, hq3, hq4, hq5, hq6, hq7, hq8⟩ := hS
                first | (go_simp; done) | (go_simp; with_reducible rfl)
              try simp only [List.getElem_toArray, List.getElem_cons_succ, List.getElem_cons_zero, Act.put, List.setIfInBounds_toArray, List.set_cons_zero, List.set_cons_succ]
              refine wpAnyG_take (L := 20) (i := 3) (v := .pointer (some ⟨g, i * 3, none⟩)) rfl (by kernel_rfl) (by kernel_rfl) (by kernel_rfl) (by kernel_rfl) (fun _ _ _ h => h) (by rfl) hS0 (fun wS hS => ?_) ?_
              · obtain ⟨hq0, hq1, hq2, hq3, hq4, hq5, hq6, hq7, hq8⟩ := hS
                first | (go_simp; done) | (go_simp; with_reducible rfl)
              try simp only [List.getElem_toArray, List.getElem_cons_succ, List.getElem_cons_zero, Act.put, List.setIfInBounds_toArray, List.set_cons_zero, List.set_cons_succ]
              refine wpAnyG_take (L := 20) (i := 4) (v := .pointer (some ⟨g, i * 3 + 1, none⟩)) rfl (by kernel_rfl) (by kernel_rfl) (by kernel_rfl) (by kernel_rfl) (fun _ _ _ h => h) (by rfl) hS0 (fun wS hS => ?_) ?_
              · obtain ⟨hq0, hq1, hq2, hq3, hq4, hq5, hq6, hq7, hq8⟩ := hS
                first | (go_simp; done) | (go_simp; with_reducible rfl)
              try simp only [List.getElem_toArray, List.getElem_cons_succ, List.getElem_cons_zero, Act.put, List.setIfInBounds_toArray, List.set_cons_zero, List.set_cons_succ]
              refine wpAnyG_take (L := 20) (i := 5) (v := .slice (some ⟨gf, 0, none⟩) m.fields.length cf) rfl (by kernel_rfl) (by kernel_rfl) (by kernel_rfl) (by kernel_rfl) (fun _ _ _ h => h) (by rfl) hS0 (fun wS hS => ?_) ?_
              · obtain ⟨hq0, hq1, hq2, hq3, hq4, hq5, hq6, hq7, hq8⟩ := hS
                first | (go_simp; done) | (go_simp; with_reducible rfl)
              try simp only [List.getElem_toArray, List.getElem_cons_succ, List.getElem_cons_zero, Act.put, List.setIfInBounds_toArray, List.set_cons_zero, List.set_cons_succ]
              refine wpAnyG_take (L := 20) (i := 6) (v := .int .i64 m.fields.length) rfl (by kernel_rfl) (by kernel_rfl) (by kernel_rfl) (by kernel_rfl) (fun _ _ _ h => h) (by rfl) hS0 (fun wS hS => ?_) ?_
              · obtain ⟨hq0, hq1, hq2, hq3, hq4, hq5, hq6, hq7, hq8⟩ := hS
                first | (go_simp; done) | (go_simp; with_reducible rfl)
              try simp only [List.getElem_toArray, List.getElem_cons_succ, List.getElem_cons_zero, Act.put, List.setIfInBounds_toArray, List.set_cons_zero, List.set_cons_succ]
              refine wpAnyG_take (L := 20) (i := 7) (v := .int .i64 ((m.fields.length : Int) - 1)) rfl (by kernel_rfl) (by kernel_rfl) (by kernel_rfl) (by kernel_rfl) (fun _ _ _ h => h) (by rfl) hS0 (fun wS hS => ?_) ?_
              · obtain ⟨hq0, hq1, hq2, hq3, hq4, hq5, hq6, hq7, hq8⟩ := hS
                first | (go_simp; done) | (go_simp; with_reducible rfl)
              try simp only [List.getElem_toArray, List.getElem_cons_succ, List.getElem_cons_zero, Act.put, List.setIfInBounds_toArray, List.set_cons_zero, List.set_cons_succ]
              refine wpAnyG_take (L := 20) (i := 8) (v := .int .i64 k) rfl (by kernel_rfl) (by kernel_rfl) (by kernel_rfl) (by kernel_rfl) (fun _ _ _ h => h) (by rfl) hS0 (fun wS hS => ?_) ?_
              · obtain ⟨hq0, hq1, hq2, hq3, hq4, hq5, hq6, hq7, hq8⟩ := hS
                first | (go_simp; done) | (go_simp; with_reducible rfl)
              try simp only [List.getElem_toArray, List.getElem_cons_succ, List.getElem_cons_zero, Act.put, List.setIfInBounds_toArray, List.set_cons_zero, List.set_cons_succ]
              refine wpAnyG_take (L := 20) (i := 9) (v := .int .i64 j) rfl (by kernel_rfl) (by kernel_rfl) (by kernel_rfl) (by kernel_rfl) (fun _ _ _ h => h) (by rfl) hS0 (fun wS hS => ?_) ?_
              · obtain ⟨hq0, hq1, hq2, hq3, hq4, hq5, hq6, hq7, hq8⟩ := hS
                first | (go_simp; done) | (go_simp; with_reducible rfl)
              try simp only [List.getElem_toArray, List.getElem_cons_succ, List.getElem_cons_zero, Act.put, List.setIfInBounds_toArray, List.set_cons_zero, List.set_cons_succ]
              refine wpAnyG_take (L := 20) (i := 10) (v := .pointer (some ⟨w.heap.size, 1, none⟩)) rfl (by kernel_rfl) (by kernel_rfl) (by kernel_rfl) (by kernel_rfl) (fun _ _ _ h => h) (by rfl) hS0 (fun wS hS => ?_) ?_
              · obtain ⟨hq0, hq1, hq2, hq3, hq4, hq5, hq6, hq7, hq8⟩ := hS
                first | (go_simp; done) | (go_simp; with_reducible rfl)
              try simp only [List.getElem_toArray, List.getElem_cons_succ, List.getElem_cons_zero, Act.put, List.setIfInBounds_toArray, List.set_cons_zero, List.set_cons_succ]
              refine wpAnyG_take (L := 20) (i := 11) (v := .slice (some ⟨b, bo, none⟩) x.messages.length mc) rfl (by kernel_rfl) (by kernel_rfl) (by kernel_rfl) (by kernel_rfl) (fun _ _ _ h => h) (by rfl) hS0 (fun wS hS => ?_) ?_
              · obtain ⟨hq0, hq1, hq2, hq3, hq4, hq5, hq6, hq7, hq8⟩ := hS
                first | (go_simp; done) | (go_simp; with_reducible rfl)
              try simp only [List.getElem_toArray, List.getElem_cons_succ, List.getElem_cons_zero, Act.put, List.setIfInBounds_toArray, List.set_cons_zero, List.set_cons_succ]
              refine wpAnyG_take (L := 20) (i := 12) (v := .int .i64 i) rfl (by kernel_rfl) (by kernel_rfl) (by kernel_rfl) (by kernel_rfl) (fun _ _ _ h => h) (by rfl) hS0 (fun wS hS => ?_) ?_
              · obtain ⟨hq0, hq1, hq2, hq3, hq4, hq5, hq6, hq7, hq8⟩ := hS
                first | (go_simp; done) | (go_simp; with_reducible rfl)
              try simp only [List.getElem_toArray, List.getElem_cons_succ, List.getElem_cons_zero, Act.put, List.setIfInBounds_toArray, List.set_cons_zero, List.set_cons_succ]
              refine wpAnyG_take (L := 20) (i := 13) (v := .pointer (some ⟨b, bo + i * 3, none⟩)) rfl (by kernel_rfl) (by kernel_rfl) (by kernel_rfl) (by kernel_rfl) (fun _ _ _ h => h) (by rfl) hS0 (fun wS hS => ?_) ?_
              · obtain ⟨hq0, hq1, hq2, hq3, hq4, hq5, hq6, hq7, hq8⟩ := hS
                first | (go_simp; done) | (go_simp; with_reducible rfl)
              try simp only [List.getElem_toArray, List.getElem_cons_succ, List.getElem_cons_zero, Act.put, List.setIfInBounds_toArray, List.set_cons_zero, List.set_cons_succ]
              refine wpAnyG_take (L := 20) (i := 14) (v := .pointer (some ⟨b, bo + i * 3 + 1, none⟩)) rfl (by kernel_rfl) (by kernel_rfl) (by kernel_rfl) (by kernel_rfl) (fun _ _ _ h => h) (by rfl) hS0 (fun wS hS => ?_) ?_
              · obtain ⟨hq0, hq1, hq2, hq3, hq4, hq5, hq6, hq7, hq8⟩ := hS
                first | (go_simp; done) | (go_simp; with_reducible rfl)
              try simp only [List.getElem_toArray, List.getElem_cons_succ, List.getElem_cons_zero, Act.put, List.setIfInBounds_toArray, List.set_cons_zero, List.set_cons_succ]
              refine wpAnyG_take (L := 20) (i := 15) (v := .slice (some ⟨fb, fo, none⟩) m.fields.length sfc) rfl (by kernel_rfl) (by kernel_rfl) (by kernel_rfl) (by kernel_rfl) (fun _ _ _ h => h) (by rfl) hS0 (fun wS hS => ?_) ?_
              · obtain ⟨hq0, hq1, hq2, hq3, hq4, hq5, hq6, hq7, hq8⟩ := hS
                first | (go_simp; done) | (go_simp; with_reducible rfl)
              try simp only [List.getElem_toArray, List.getElem_cons_succ, List.getElem_cons_zero, Act.put, List.setIfInBounds_toArray, List.set_cons_zero, List.set_cons_succ]
              refine wpAnyG_take (L := 20) (i := 16) (v := .int .i64 k) rfl (by kernel_rfl) (by kernel_rfl) (by kernel_rfl) (by kernel_rfl) (fun _ _ _ h => h) (by rfl) hS0 (fun wS hS => ?_) ?_
              · obtain ⟨hq0, hq1, hq2, hq3, hq4, hq5, hq6, hq7, hq8⟩ := hS
                first | (go_simp; done) | (go_simp; with_reducible rfl)
              try simp only [List.getElem_toArray, List.getElem_cons_succ, List.getElem_cons_zero, Act.put, List.setIfInBounds_toArray, List.set_cons_zero, List.set_cons_succ]
              refine wpAnyG_take (L := 20) (i := 17) (v := .pointer (some ⟨fb, fo + k * 5, none⟩)) rfl (by kernel_rfl) (by kernel_rfl) (by kernel_rfl) (by kernel_rfl) (fun _ _ _ h => h) (by rfl) hS0 (fun wS hS => ?_) ?_
              · obtain ⟨hq0, hq1, hq2, hq3, hq4, hq5, hq6, hq7, hq8⟩ := hS
                first | (go_simp; done) | (go_simp; with_reducible rfl)
              try simp only [List.getElem_toArray, List.getElem_cons_succ, List.getElem_cons_zero, Act.put, List.setIfInBounds_toArray, List.set_cons_zero, List.set_cons_succ]
              refine wpAnyG_take (L := 20) (i := 18) (v := .agg #[.string fn, .int .i64 ft, .int .i64 fl, .int .i64 fk, .string ftn]) rfl (by kernel_rfl) (by kernel_rfl) (by kernel_rfl) (by kernel_rfl) (fun _ _ _ h => h) (by rfl) hS0 (fun wS hS => ?_) ?_
              · obtain ⟨hq0, hq1, hq2, hq3, hq4, hq5, hq6, hq7, hq8⟩ := hS
                first | (go_simp; done) | (go_simp; with_reducible rfl)
              try simp only [List.getElem_toArray, List.getElem_cons_succ, List.getElem_cons_zero, Act.put, List.setIfInBounds_toArray, List.set_cons_zero, List.set_cons_succ]
              refine wpAnyG_take (L := 20) (i := 19) (v := .pointer (some ⟨gf, j * 5, none⟩)) rfl (by kernel_rfl) (by kernel_rfl) (by kernel_rfl) (by kernel_rfl) (fun _ _ _ h => h) (by rfl) hS0 (fun wS hS => ?_) ?_
              · obtain ⟨hq0, hq1, hq2, hq3, hq4, hq5, hq6, hq7, hq8⟩ := hS
                first | (go_simp; done) | (go_simp; with_reducible rfl)
              try simp only [List.getElem_toArray, List.getElem_cons_succ, List.getElem_cons_zero, Act.put, List.setIfInBounds_toArray, List.set_cons_zero, List.set_cons_succ]
              refine wpAnyG_one (i := 20) rfl (by kernel_rfl) (fun K hK => ?_)
              simp (proj := false) only [List.getElem_toArray, List.getElem_cons_succ, List.getElem_cons_zero]
              go_simp
              refine hK.out _ _ (fun h => absurd rfl h) ?_
              clear hK K
              try simp only [List.getElem_toArray, List.getElem_cons_succ, List.getElem_cons_zero, Act.put, List.setIfInBounds_toArray, List.set_cons_zero, List.set_cons_succ]
              refine wpAnyG_done (by kernel_rfl) ?_
              replace hjz := Lib.hid hjz; replace hS0 := Lib.hid hS0; clear hw1 hw2 hw3
              have hwk : IntKind.i64.wrap ((k : Int) + 1) = ((k + 1 : Nat) : Int) := by rw [IntWalk.i64_in _ (by have := hmm.out.1; omega)]; simp
              go_wp2
              go_roundw
              case rel => exact ⟨k + 1, by omega, by go_num, hfin.out.drew⟩
              case measure => simp [intOf]; omega
            · obtain rfl : k = m.fields.length := by omega
              rw [turnL_full] at hok
              obtain ⟨g', c', vf2, vr2, hv, cf2, cr2, of2, or2, pf2, pr2⟩ := hok.msg
              injection hv with hv1 hv2 hv3; clear hv2
              injection hv1 with hv1
              injection hv1 with hv1 _ _
              subst hv1; subst hv3
              rw [hAl.out] at cf2 cr2
              simp only at or2
              obtain ⟨trA, trc, rfl⟩ := own_slice or2
              have ht1 := blk_cell hok.t 1
              simp only [List.getElem?_toArray, List.getElem?_cons_succ, List.getElem?_cons_zero] at ht1
              obtain ⟨wk2, rfl⟩ : ∃ wo : World, wo = wr := ⟨_, rfl⟩
              replace hok := Lib.hid hok; replace of2 := Lib.hid of2; replace or2 := Lib.hid or2; replace pf2 := Lib.hid pf2; replace pr2 := Lib.hid pr2
              go_wp2
              go_loopw [8] (fun t wr => ∃ k : Nat, k ≤ m.reserved.length ∧ t = .int .i64 k ∧ OrdS w #[.string x.name, .slice (some ⟨b, bo, none⟩) x.messages.length mc, .slice eA x.enums.length ec, .slice cA x.methods.length cc] w4.heap.size w4.heap.size x (A ++ ⟨m.name, m.fields.reverse, (turnL m.reserved k)⟩ :: r) x.enums (.slice (some ⟨g, 0, none⟩) x.messages.length tmc) (.slice teA x.enums.length tec) (.slice tcA x.methods.length tcc) wr) (fun t _ => m.reserved.length - (intOf t).toNat)
              case atStart => exact ⟨0, Nat.zero_le _, rfl, by rw [turnL_zero]; exact hok.out⟩
              case round =>
                obtain ⟨k, hk, rfl, hok⟩ := hrel
                by_cases hltk : k < m.reserved.length
                · have hltk' : (k : Int) < (m.reserved.length : Int) := by omega
                  obtain ⟨g', c', vf2, vr2, hv, cf2, cr2, of2, or2, pf2, pr2⟩ := hok.msg
                  injection hv with hv1 hv2 hv3; clear hv2
                  injection hv1 with hv1
                  injection hv1 with hv1 _ _
                  subst hv1; subst hv3
                  rw [hAl.out] at cr2 cf2
                  simp only at or2
                  rw [turnL_length _ _ hk] at or2
                  obtain ⟨gf, cf, rfl, hcellf, _⟩ := own_form or2 (by omega)
                  obtain ⟨curf, hcurf⟩ := own_cells or2
                  obtain ⟨fb, fo, fc, hv, _, _⟩ := grs.out.form (by omega)
                  injection hv with hx1 hx2 hx3
                  subst hx1; subst hx3
                  have hfa : wr.cell? ⟨fb, fo + k, none⟩ = some (.int .i64 m.reserved[k]) := by
                    have := grs.out.at_ (by omega) hok.below.block k 0 (by omega) (v := .int .i64 m.reserved[k]) (by simp [intsCells, hltk])
                    simpa using this
                  have hst := turnL_step m.reserved k hltk
                  obtain ⟨j, hj⟩ : ∃ j : Nat, j = m.reserved.length - 1 - k := ⟨_, rfl⟩
                  rw [← hj] at hst
                  have hjl : j < m.reserved.length := by omega
                  have hjlz : (j : Int) < (m.reserved.length : Int) := by omega
                  have hjz : (m.reserved.length : Int) - 1 - (k : Int) = (j : Int) := by omega
                  have hn1 : (1 : Int) ≤ (m.reserved.length : Int) := by omega
                  have hw1 : IntKind.i64.wrap ((m.reserved.length : Int) - 1) = (m.reserved.length : Int) - 1 := IntWalk.i64_in _ (by have := hmm.out.2; omega)
                  have hw2 : IntKind.i64.wrap ((m.reserved.length : Int) - 1 - (k : Int)) = (j : Int) := (IntWalk.i64_in _ (by have := hmm.out.2; omega)).trans hjz
                  have hw3 : IntKind.i64.wrap (j : Int) = (j : Int) := IntWalk.i64_in _ (by have := hmm.out.2; omega)
                  have hsx := (hsrc.out wr hok.below).2
                  have ht1 := blk_cell hok.t 1
                  have hs1 := blk_cell hok.s 1
                  simp only [List.getElem?_toArray, List.getElem?_cons_succ, List.getElem?_cons_zero] at ht1 hs1
                  have hcl : ∃ v, wr.cell? ⟨gf, j, none⟩ = some v := by
                    rw [hcellf _ (by omega)]
                    exact ⟨_, List.getElem?_eq_getElem (by rw [or2.1]; omega)⟩
                  obtain ⟨z0, e0⟩ := hcl
                  have hfz : ∀ q, wr.frozen? ⟨gf, q, none⟩ = false := blk_frozen hcurf
                  generalize hFk : m.reserved[k] = f at hfa hst
                  have a0 := hfa
                  obtain ⟨wj, rfl⟩ : ∃ wo : World, wo = wr := ⟨_, rfl⟩
                  have hS0 := (⟨ht1, cr2, hs1, hsx, a0⟩ : wj.drew.cell? ⟨w4.heap.size, 1, none⟩ = _ ∧ wj.drew.cell? ⟨g, i * 3 + 2, none⟩ = _ ∧ wj.drew.cell? ⟨w.heap.size, 1, none⟩ = _ ∧ wj.drew.cell? ⟨b, bo + i * 3 + 2, none⟩ = _ ∧ wj.drew.cell? ⟨fb, fo + k, none⟩ = _)
                  have hg5 := setCell_grown wj gf (j) (.int .i64 f)
                  have ho5 := own_put1 or2 (j) (.int .i64 f)
                  rw [show intsCells (turnL m.reserved k) = (turnL m.reserved k).map (Value.int .i64) from rfl, List.map_set.symm, hst] at ho5
                  have hfin := Lib.hid (pr2 _ (turnL m.reserved (k + 1)) hg5 (by rw [turnL_length _ _ (by omega)]; exact ho5))
                  replace hok := Lib.hid hok; replace or2 := Lib.hid or2; replace pr2 := Lib.hid pr2; replace hcellf := Lib.hid hcellf; replace hcurf := Lib.hid hcurf; replace hg5 := Lib.hid hg5; replace ho5 := Lib.hid ho5; replace hst := Lib.hid hst; replace hj := Lib.hid hj; replace hFk := Lib.hid hFk; replace of2 := Lib.hid of2; replace pf2 := Lib.hid pf2; replace cf2 := Lib.hid cf2
                  try clear hfa
                  try clear hcl
                  try clear h5e
                  go_upto_region 16 with fail
                  refine wp_region_wait (fun W => W.cell? ⟨w4.heap.size, 1, none⟩ = some (.slice (some ⟨g, 0, none⟩) x.messages.length tmc) ∧ W.cell? ⟨g, i * 3 + 2, none⟩ = some (.slice (some ⟨gf, 0, none⟩) m.reserved.length cf) ∧ W.cell? ⟨w.heap.size, 1, none⟩ = some (.slice (some ⟨b, bo, none⟩) x.messages.length mc) ∧ W.cell? ⟨b, bo + i * 3 + 2, none⟩ = some (.slice (some ⟨fb, fo, none⟩) m.reserved.length src) ∧ W.cell? ⟨fb, fo + k, none⟩ = some (.int .i64 f)) 20 (by kernel_rfl) ?_
                  refine wpAnyG_take (L := 20) (i := 0) (v := .pointer (some ⟨w4.heap.size, 1, none⟩)) rfl (by kernel_rfl) (by kernel_rfl) (by kernel_rfl) (by kernel_rfl) (fun _ _ _ h => h) (by rfl) hS0 (fun wS hS => ?_) ?_
                  · obtain ⟨hq0, hq1, hq2, hq3, hq4⟩ := hS
                    first | (go_simp; done) | (go_simp; with_reducible rfl)
                  try simp only [List.getElem_toArray, List.getElem_cons_succ, List.getElem_cons_zero, Act.put, List.setIfInBounds_toArray, List.set_cons_zero, List.set_cons_succ]
                  refine wpAnyG_take (L := 20) (i := 1) (v := .slice (some ⟨g, 0, none⟩) x.messages.length tmc) rfl (by kernel_rfl) (by kernel_rfl) (by kernel_rfl) (by kernel_rfl) (fun _ _ _ h => h) (by rfl) hS0 (fun wS hS => ?_) ?_
                  · obtain ⟨hq0, hq1, hq2, hq3, hq4⟩ := hS
                    first | (go_simp; done) | (go_simp; with_reducible rfl)
                  try simp only [List.getElem_toArray, List.getElem_cons_succ, List.getElem_cons_zero, Act.put, List.setIfInBounds_toArray, List.set_cons_zero, List.set_cons_succ]
                  refine wpAnyG_take (L := 20) (i := 2) (v := .int .i64 i) rfl (by kernel_rfl) (by kernel_rfl) (by kernel_rfl) (by kernel_rfl) (fun _ _ _ h => h) (by rfl) hS0 (fun wS hS => ?_) ?_
                  · obtain ⟨hq0, hq1, hq2, hq3, hq4⟩ := hS
                    first | (go_simp; done) | (go_simp; with_reducible rfl)
                  try simp only [List.getElem_toArray, List.getElem_cons_succ, List.getElem_cons_zero, Act.put, List.setIfInBounds_toArray, List.set_cons_zero, List.set_cons_succ]
                  refine wpAnyG_take (L := 20) (i := 3) (v := .pointer (some ⟨g, i * 3, none⟩)) rfl (by kernel_rfl) (by kernel_rfl) (by kernel_rfl) (by kernel_rfl) (fun _ _ _ h => h) (by rfl) hS0 (fun wS hS => ?_) ?_
                  · obtain ⟨hq0, hq1, hq2, hq3, hq4⟩ := hS
                    first | (go_simp; done) | (go_simp; with_reducible rfl)
                  try simp only [List.getElem_toArray, List.getElem_cons_succ, List.getElem_cons_zero, Act.put, List.setIfInBounds_toArray, List.set_cons_zero, List.set_cons_succ]
                  refine wpAnyG_take (L := 20) (i := 4) (v := .pointer (some ⟨g, i * 3 + 2, none⟩)) rfl (by kernel_rfl) (by kernel_rfl) (by kernel_rfl) (by kernel_rfl) (fun _ _ _ h => h) (by rfl) hS0 (fun wS hS => ?_) ?_
                  · obtain ⟨hq0, hq1, hq2, hq3, hq4⟩ := hS
                    first | (go_simp; done) | (go_simp; with_reducible rfl)
                  try simp only [List.getElem_toArray, List.getElem_cons_succ, List.getElem_cons_zero, Act.put, List.setIfInBounds_toArray, List.set_cons_zero, List.set_cons_succ]
                  refine wpAnyG_take (L := 20) (i := 5) (v := .slice (some ⟨gf, 0, none⟩) m.reserved.length cf) rfl (by kernel_rfl) (by kernel_rfl) (by kernel_rfl) (by kernel_rfl) (fun _ _ _ h => h) (by rfl) hS0 (fun wS hS => ?_) ?_
                  · obtain ⟨hq0, hq1, hq2, hq3, hq4⟩ := hS
                    first | (go_simp; done) | (go_simp; with_reducible rfl)
                  try simp only [List.getElem_toArray, List.getElem_cons_succ, List.getElem_cons_zero, Act.put, List.setIfInBounds_toArray, List.set_cons_zero, List.set_cons_succ]
                  refine wpAnyG_take (L := 20) (i := 6) (v := .int .i64 m.reserved.length) rfl (by kernel_rfl) (by kernel_rfl) (by kernel_rfl) (by kernel_rfl) (fun _ _ _ h => h) (by rfl) hS0 (fun wS hS => ?_) ?_
                  · obtain ⟨hq0, hq1, hq2, hq3, hq4⟩ := hS
                    first | (go_simp; done) | (go_simp; with_reducible rfl)
                  try simp only [List.getElem_toArray, List.getElem_cons_succ, List.getElem_cons_zero, Act.put, List.setIfInBounds_toArray, List.set_cons_zero, List.set_cons_succ]
                  refine wpAnyG_take (L := 20) (i := 7) (v := .int .i64 ((m.reserved.length : Int) - 1)) rfl (by kernel_rfl) (by kernel_rfl) (by kernel_rfl) (by kernel_rfl) (fun _ _ _ h => h) (by rfl) hS0 (fun wS hS => ?_) ?_
                  · obtain ⟨hq0, hq1, hq2, hq3, hq4⟩ := hS
                    first | (go_simp; done) | (go_simp; with_reducible rfl)
                  try simp only [List.getElem_toArray, List.getElem_cons_succ, List.getElem_cons_zero, Act.put, List.setIfInBounds_toArray, List.set_cons_zero, List.set_cons_succ]
                  refine wpAnyG_take (L := 20) (i := 8) (v := .int .i64 k) rfl (by kernel_rfl) (by kernel_rfl) (by kernel_rfl) (by kernel_rfl) (fun _ _ _ h => h) (by rfl) hS0 (fun wS hS => ?_) ?_
                  · obtain ⟨hq0, hq1, hq2, hq3, hq4⟩ := hS
                    first | (go_simp; done) | (go_simp; with_reducible rfl)
                  try simp only [List.getElem_toArray, List.getElem_cons_succ, List.getElem_cons_zero, Act.put, List.setIfInBounds_toArray, List.set_cons_zero, List.set_cons_succ]
                  refine wpAnyG_take (L := 20) (i := 9) (v := .int .i64 j) rfl (by kernel_rfl) (by kernel_rfl) (by kernel_rfl) (by kernel_rfl) (fun _ _ _ h => h) (by rfl) hS0 (fun wS hS => ?_) ?_
                  · obtain ⟨hq0, hq1, hq2, hq3, hq4⟩ := hS
                    first | (go_simp; done) | (go_simp; with_reducible rfl)
                  try simp only [List.getElem_toArray, List.getElem_cons_succ, List.getElem_cons_zero, Act.put, List.setIfInBounds_toArray, List.set_cons_zero, List.set_cons_succ]
                  refine wpAnyG_take (L := 20) (i := 10) (v := .pointer (some ⟨w.heap.size, 1, none⟩)) rfl (by kernel_rfl) (by kernel_rfl) (by kernel_rfl) (by kernel_rfl) (fun _ _ _ h => h) (by rfl) hS0 (fun wS hS => ?_) ?_
                  · obtain ⟨hq0, hq1, hq2, hq3, hq4⟩ := hS
                    first | (go_simp; done) | (go_simp; with_reducible rfl)
                  try simp only [List.getElem_toArray, List.getElem_cons_succ, List.getElem_cons_zero, Act.put, List.setIfInBounds_toArray, List.set_cons_zero, List.set_cons_succ]
                  refine wpAnyG_take (L := 20) (i := 11) (v := .slice (some ⟨b, bo, none⟩) x.messages.length mc) rfl (by kernel_rfl) (by kernel_rfl) (by kernel_rfl) (by kernel_rfl) (fun _ _ _ h => h) (by rfl) hS0 (fun wS hS => ?_) ?_
                  · obtain ⟨hq0, hq1, hq2, hq3, hq4⟩ := hS
                    first | (go_simp; done) | (go_simp; with_reducible rfl)
                  try simp only [List.getElem_toArray, List.getElem_cons_succ, List.getElem_cons_zero, Act.put, List.setIfInBounds_toArray, List.set_cons_zero, List.set_cons_succ]
                  refine wpAnyG_take (L := 20) (i := 12) (v := .int .i64 i) rfl (by kernel_rfl) (by kernel_rfl) (by kernel_rfl) (by kernel_rfl) (fun _ _ _ h => h) (by rfl) hS0 (fun wS hS => ?_) ?_
                  · obtain ⟨hq0, hq1, hq2, hq3, hq4⟩ := hS
                    first | (go_simp; done) | (go_simp; with_reducible rfl)
                  try simp only [List.getElem_toArray, List.getElem_cons_succ, List.getElem_cons_zero, Act.put, List.setIfInBounds_toArray, List.set_cons_zero, List.set_cons_succ]
                  refine wpAnyG_take (L := 20) (i := 13) (v := .pointer (some ⟨b, bo + i * 3, none⟩)) rfl (by kernel_rfl) (by kernel_rfl) (by kernel_rfl) (by kernel_rfl) (fun _ _ _ h => h) (by rfl) hS0 (fun wS hS => ?_) ?_
                  · obtain ⟨hq0, hq1, hq2, hq3, hq4⟩ := hS
                    first | (go_simp; done) | (go_simp; with_reducible rfl)
                  try simp only [List.getElem_toArray, List.getElem_cons_succ, List.getElem_cons_zero, Act.put, List.setIfInBounds_toArray, List.set_cons_zero, List.set_cons_succ]
                  refine wpAnyG_take (L := 20) (i := 14) (v := .pointer (some ⟨b, bo + i * 3 + 2, none⟩)) rfl (by kernel_rfl) (by kernel_rfl) (by kernel_rfl) (by kernel_rfl) (fun _ _ _ h => h) (by rfl) hS0 (fun wS hS => ?_) ?_
                  · obtain ⟨hq0, hq1, hq2, hq3, hq4⟩ := hS
                    first | (go_simp; done) | (go_simp; with_reducible rfl)
                  try simp only [List.getElem_toArray, List.getElem_cons_succ, List.getElem_cons_zero, Act.put, List.setIfInBounds_toArray, List.set_cons_zero, List.set_cons_succ]
                  refine wpAnyG_take (L := 20) (i := 15) (v := .slice (some ⟨fb, fo, none⟩) m.reserved.length src) rfl (by kernel_rfl) (by kernel_rfl) (by kernel_rfl) (by kernel_rfl) (fun _ _ _ h => h) (by rfl) hS0 (fun wS hS => ?_) ?_
                  · obtain ⟨hq0, hq1, hq2, hq3, hq4⟩ := hS
                    first | (go_simp; done) | (go_simp; with_reducible rfl)
                  try simp only [List.getElem_toArray, List.getElem_cons_succ, List.getElem_cons_zero, Act.put, List.setIfInBounds_toArray, List.set_cons_zero, List.set_cons_succ]
                  refine wpAnyG_take (L := 20) (i := 16) (v := .int .i64 k) rfl (by kernel_rfl) (by kernel_rfl) (by kernel_rfl) (by kernel_rfl) (fun _ _ _ h => h) (by rfl) hS0 (fun wS hS => ?_) ?_
                  · obtain ⟨hq0, hq1, hq2, hq3, hq4⟩ := hS
                    first | (go_simp; done) | (go_simp; with_reducible rfl)
                  try simp only [List.getElem_toArray, List.getElem_cons_succ, List.getElem_cons_zero, Act.put, List.setIfInBounds_toArray, List.set_cons_zero, List.set_cons_succ]
                  refine wpAnyG_take (L := 20) (i := 17) (v := .pointer (some ⟨fb, fo + k, none⟩)) rfl (by kernel_rfl) (by kernel_rfl) (by kernel_rfl) (by kernel_rfl) (fun _ _ _ h => h) (by rfl) hS0 (fun wS hS => ?_) ?_
                  · obtain ⟨hq0, hq1, hq2, hq3, hq4⟩ := hS
                    first | (go_simp; done) | (go_simp; with_reducible rfl)
                  try simp only [List.getElem_toArray, List.getElem_cons_succ, List.getElem_cons_zero, Act.put, List.setIfInBounds_toArray, List.set_cons_zero, List.set_cons_succ]
                  refine wpAnyG_take (L := 20) (i := 18) (v := .int .i64 f) rfl (by kernel_rfl) (by kernel_rfl) (by kernel_rfl) (by kernel_rfl) (fun _ _ _ h => h) (by rfl) hS0 (fun wS hS => ?_) ?_
                  · obtain ⟨hq0, hq1, hq2, hq3, hq4⟩ := hS
                    first | (go_simp; done) | (go_simp; with_reducible rfl)
                  try simp only [List.getElem_toArray, List.getElem_cons_succ, List.getElem_cons_zero, Act.put, List.setIfInBounds_toArray, List.set_cons_zero, List.set_cons_succ]
                  refine wpAnyG_take (L := 20) (i := 19) (v := .pointer (some ⟨gf, j, none⟩)) rfl (by kernel_rfl) (by kernel_rfl) (by kernel_rfl) (by kernel_rfl) (fun _ _ _ h => h) (by rfl) hS0 (fun wS hS => ?_) ?_
                  · obtain ⟨hq0, hq1, hq2, hq3, hq4⟩ := hS
                    first | (go_simp; done) | (go_simp; with_reducible rfl)
                  try simp only [List.getElem_toArray, List.getElem_cons_succ, List.getElem_cons_zero, Act.put, List.setIfInBounds_toArray, List.set_cons_zero, List.set_cons_succ]
                  refine wpAnyG_one (i := 20) rfl (by kernel_rfl) (fun K hK => ?_)
                  simp (proj := false) only [List.getElem_toArray, List.getElem_cons_succ, List.getElem_cons_zero]
                  go_simp
                  refine hK.out _ _ (fun h => absurd rfl h) ?_
                  clear hK K
                  try simp only [List.getElem_toArray, List.getElem_cons_succ, List.getElem_cons_zero, Act.put, List.setIfInBounds_toArray, List.set_cons_zero, List.set_cons_succ]
                  refine wpAnyG_done (by kernel_rfl) ?_
                  replace hjz := Lib.hid hjz; replace hS0 := Lib.hid hS0; clear hw1 hw2 hw3
                  have hwk : IntKind.i64.wrap ((k : Int) + 1) = ((k + 1 : Nat) : Int) := by rw [IntWalk.i64_in _ (by have := hmm.out.2; omega)]; simp
                  go_wp2
                  go_roundw
                  case rel => exact ⟨k + 1, by omega, by go_num, hfin.out.drew⟩
                  case measure => simp [intOf]; omega
                · obtain rfl : k = m.reserved.length := by omega
                  rw [turnL_full] at hok
                  have hfin := Lib.hid (show OrdS w #[.string x.name, .slice (some ⟨b, bo, none⟩) x.messages.length mc, .slice eA x.enums.length ec, .slice cA x.methods.length cc] w4.heap.size w4.heap.size x (turnTo revM x.messages (i + 1)) x.enums (.slice (some ⟨g, 0, none⟩) x.messages.length tmc) (.slice teA x.enums.length tec) (.slice tcA x.methods.length tcc) wr from by rw [htk.out]; exact hok)
                  replace hok := Lib.hid hok
                  have hl9 := hmo.out.messages
                  have hwi : IntKind.i64.wrap ((i : Int) + 1) = ((i + 1 : Nat) : Int) := by rw [IntWalk.i64_in _ (by omega)]; simp
                  go_wp2
                  go_roundw
                  case rel => exact ⟨i + 1, by omega, by go_num, hfin.out⟩
                  case measure => simp [intOf]; omega
        · obtain rfl : i = x.messages.length := by omega
          rw [turnTo_full] at ho
          replace ho := Lib.hid ho
          go_wp2
          go_loopw [9] (fun t wr => ∃ i : Nat, i ≤ x.enums.length ∧ t = .int .i64 i ∧ OrdS w #[.string x.name, .slice mA x.messages.length mc, .slice eA x.enums.length ec, .slice cA x.methods.length cc] w4.heap.size w4.heap.size x (x.messages.map revM) (turnTo revE x.enums i) (.slice tmA x.messages.length tmc) (.slice teA x.enums.length tec) (.slice tcA x.methods.length tcc) wr) (fun t _ => x.enums.length - (intOf t).toNat)
          case atStart => exact ⟨0, Nat.zero_le _, rfl, by rw [turnTo_zero]; exact ho.out⟩
          case round =>
            obtain ⟨i, hi, rfl, ho⟩ := hrel
            have ht1 := blk_cell ho.t 2
            have hs1 := blk_cell ho.s 2
            simp only [List.getElem?_toArray, List.getElem?_cons_succ, List.getElem?_cons_zero] at ht1 hs1
            by_cases hlt : i < x.enums.length
            · have hlt' : (i : Int) < (x.enums.length : Int) := by omega
              have hAl : ((x.enums.take i).map revE).length = i := by rw [List.length_map, List.length_take]; omega
              rw [turnTo_at _ _ _ hlt] at ho
              have htk := turnTo_next revE x.enums i hlt
              obtain ⟨b, bo, bc, hv, _, _⟩ := h2.out.form (by omega)
              injection hv with hv1 hv2 hv3
              subst hv1; subst hv3
              obtain ⟨vfs, q0, q1, gfs⟩ := h5.out.get i hlt
              obtain ⟨sfA, sfc, rfl⟩ := gfs.slice
              have hsrc : ∀ W, Below w.heap.size w W → W.cell? ⟨b, bo + i * 2 + 1, none⟩ = some (.slice sfA x.enums[i].values.length sfc) := fun W hW =>
                h2.out.at_ (w' := W) (by omega) hW.block i 1 (by omega) q1
              have hmm := hmo.out.values x.enums[i] (List.getElem_mem hlt)
              obtain ⟨A, hA⟩ : ∃ A, A = (x.enums.take i).map revE := ⟨_, rfl⟩
              obtain ⟨r, hrr⟩ : ∃ r, r = x.enums.drop (i + 1) := ⟨_, rfl⟩
              rw [← hA, ← hrr] at ho htk
              rw [← hA] at hAl
              obtain ⟨g, c, vf, hv, cf1, of, pf⟩ := ho.enm
              injection hv with hv1 hv2 hv3; clear hv2
              subst hv1; subst hv3
              rw [hAl] at cf1
              generalize x.enums[i] = m at *
              obtain ⟨tfA, tfc, rfl⟩ := own_slice of
              obtain ⟨wk, rfl⟩ : ∃ wo : World, wo = wr := ⟨_, rfl⟩
              replace ho := Lib.hid ho; replace of := Lib.hid of; replace pf := Lib.hid pf; replace hsrc := Lib.hid hsrc; replace gfs := Lib.hid gfs; replace hA := Lib.hid hA; replace hrr := Lib.hid hrr; replace hmm := Lib.hid hmm; replace htk := Lib.hid htk; replace hAl := Lib.hid hAl
              clear q0 q1
              go_wp2
              go_loopw [11] (fun t wr => ∃ k : Nat, k ≤ m.values.length ∧ t = .int .i64 k ∧ OrdS w #[.string x.name, .slice mA x.messages.length mc, .slice (some ⟨b, bo, none⟩) x.enums.length ec, .slice cA x.methods.length cc] w4.heap.size w4.heap.size x (x.messages.map revM) (A ++ ⟨m.name, (turnL m.values k)⟩ :: r) (.slice tmA x.messages.length tmc) (.slice (some ⟨g, 0, none⟩) x.enums.length tec) (.slice tcA x.methods.length tcc) wr) (fun t _ => m.values.length - (intOf t).toNat)
              case atStart => exact ⟨0, Nat.zero_le _, rfl, by rw [turnL_zero]; exact ho.out⟩
              case round =>
                obtain ⟨k, hk, rfl, hok⟩ := hrel
                by_cases hltk : k < m.values.length
                · have hltk' : (k : Int) < (m.values.length : Int) := by omega
                  obtain ⟨g', c', vf2, hv, cf2, of2, pf2⟩ := hok.enm
                  injection hv with hv1 hv2 hv3; clear hv2
                  injection hv1 with hv1
                  injection hv1 with hv1 _ _
                  subst hv1; subst hv3
                  rw [hAl.out] at cf2
                  simp only at of2
                  rw [turnL_length _ _ hk] at of2
                  obtain ⟨gf, cf, rfl, hcellf, _⟩ := own_form of2 (by omega)
                  obtain ⟨curf, hcurf⟩ := own_cells of2
                  obtain ⟨fb, fo, fc, hv, _, _⟩ := gfs.out.form (by omega)
                  injection hv with hx1 hx2 hx3
                  subst hx1; subst hx3
                  have hfa : ∀ q v, q < 2 → (namedCells m.values[k])[q]? = some v → wr.cell? ⟨fb, fo + k * 2 + q, none⟩ = some v := fun q v hq hv =>
                    gfs.out.at_ (by omega) hok.below.block k q (by omega) ((flatMap_at namedCells 2 (fun _ => rfl) m.values k hltk q hq).trans hv)
                  have hst := turnL_step m.values k hltk
                  obtain ⟨j, hj⟩ : ∃ j : Nat, j = m.values.length - 1 - k := ⟨_, rfl⟩
                  rw [← hj] at hst
                  have hjl : j < m.values.length := by omega
                  have hjlz : (j : Int) < (m.values.length : Int) := by omega
                  have hjz : (m.values.length : Int) - 1 - (k : Int) = (j : Int) := by omega
                  have hn1 : (1 : Int) ≤ (m.values.length : Int) := by omega
                  have hw1 : IntKind.i64.wrap ((m.values.length : Int) - 1) = (m.values.length : Int) - 1 := IntWalk.i64_in _ (by have := hmm.out; omega)
                  have hw2 : IntKind.i64.wrap ((m.values.length : Int) - 1 - (k : Int)) = (j : Int) := (IntWalk.i64_in _ (by have := hmm.out; omega)).trans hjz
                  have hw3 : IntKind.i64.wrap (j : Int) = (j : Int) := IntWalk.i64_in _ (by have := hmm.out; omega)
                  have hsx := hsrc.out wr hok.below
                  have ht1 := blk_cell hok.t 2
                  have hs1 := blk_cell hok.s 2
                  simp only [List.getElem?_toArray, List.getElem?_cons_succ, List.getElem?_cons_zero] at ht1 hs1
                  have hcl : ∀ q, q < 2 → ∃ v, wr.cell? ⟨gf, j * 2 + q, none⟩ = some v := fun q hq => by
                    rw [hcellf _ (by omega)]
                    exact ⟨_, List.getElem?_eq_getElem (by rw [of2.1]; omega)⟩
                  obtain ⟨z0, e0⟩ := hcl 0 (by omega)
                  obtain ⟨z1, e1⟩ := hcl 1 (by omega)
                  simp only [Nat.add_zero] at e0
                  have hfz : ∀ q, wr.frozen? ⟨gf, q, none⟩ = false := blk_frozen hcurf
                  generalize hFk : m.values[k] = f at hfa hst
                  obtain ⟨fn, ft⟩ := f
                  have a0 := hfa 0 _ (by decide) rfl
                  have a1 := hfa 1 _ (by decide) rfl
                  simp only [Nat.add_zero] at a0
                  obtain ⟨wj, rfl⟩ : ∃ wo : World, wo = wr := ⟨_, rfl⟩
                  have hS0 := (⟨ht1, cf2, hs1, hsx, a0, a1⟩ : wj.drew.cell? ⟨w4.heap.size, 2, none⟩ = _ ∧ wj.drew.cell? ⟨g, i * 2 + 1, none⟩ = _ ∧ wj.drew.cell? ⟨w.heap.size, 2, none⟩ = _ ∧ wj.drew.cell? ⟨b, bo + i * 2 + 1, none⟩ = _ ∧ wj.drew.cell? ⟨fb, fo + k * 2, none⟩ = _ ∧ wj.drew.cell? ⟨fb, fo + k * 2 + 1, none⟩ = _)
                  have hg5 := grown_trans (setCell_grown wj gf (j * 2) (.string fn)) (setCell_grown _ gf (j * 2 + 1) (.int .i64 ft))
                  have ho5 := own_put1 (own_put1 of2 (j * 2) (.string fn)) (j * 2 + 1) (.int .i64 ft)
                  have h5e := set2v ⟨fn, ft⟩ (turnL m.values k) j (by rw [turnL_length _ _ hk]; exact hjl)
                  simp only at h5e
                  rw [show namedsCells (turnL m.values k) = (turnL m.values k).flatMap namedCells from rfl, h5e, hst] at ho5
                  have hfin := Lib.hid (pf2 _ (turnL m.values (k + 1)) hg5 (by rw [turnL_length _ _ (by omega)]; exact ho5))
                  replace hok := Lib.hid hok; replace of2 := Lib.hid of2; replace pf2 := Lib.hid pf2; replace hcellf := Lib.hid hcellf; replace hcurf := Lib.hid hcurf; replace hg5 := Lib.hid hg5; replace ho5 := Lib.hid ho5; replace hst := Lib.hid hst; replace hj := Lib.hid hj; replace hFk := Lib.hid hFk
                  try clear hfa
                  try clear hcl
                  try clear h5e
                  go_upto_region 24 with fail
                  refine wp_region_wait (fun W => W.cell? ⟨w4.heap.size, 2, none⟩ = some (.slice (some ⟨g, 0, none⟩) x.enums.length tec) ∧ W.cell? ⟨g, i * 2 + 1, none⟩ = some (.slice (some ⟨gf, 0, none⟩) m.values.length cf) ∧ W.cell? ⟨w.heap.size, 2, none⟩ = some (.slice (some ⟨b, bo, none⟩) x.enums.length ec) ∧ W.cell? ⟨b, bo + i * 2 + 1, none⟩ = some (.slice (some ⟨fb, fo, none⟩) m.values.length sfc) ∧ W.cell? ⟨fb, fo + k * 2, none⟩ = some (.string fn) ∧ W.cell? ⟨fb, fo + k * 2 + 1, none⟩ = some (.int .i64 ft)) 20 (by kernel_rfl) ?_
                  refine wpAnyG_take (L := 20) (i := 0) (v := .pointer (some ⟨w4.heap.size, 2, none⟩)) rfl (by kernel_rfl) (by kernel_rfl) (by kernel_rfl) (by kernel_rfl) (fun _ _ _ h => h) (by rfl) hS0 (fun wS hS => ?_) ?_
                  · obtain ⟨hq0, hq1, hq2, hq3, hq4, hq5⟩ := hS
                    first | (go_simp; done) | (go_simp; with_reducible rfl)
                  try simp only [List.getElem_toArray, List.getElem_cons_succ, List.getElem_cons_zero, Act.put, List.setIfInBounds_toArray, List.set_cons_zero, List.set_cons_succ]
                  refine wpAnyG_take (L := 20) (i := 1) (v := .slice (some ⟨g, 0, none⟩) x.enums.length tec) rfl (by kernel_rfl) (by kernel_rfl) (by kernel_rfl) (by kernel_rfl) (fun _ _ _ h => h) (by rfl) hS0 (fun wS hS => ?_) ?_
                  · obtain ⟨hq0, hq1, hq2, hq3, hq4, hq5⟩ := hS
                    first | (go_simp; done) | (go_simp; with_reducible rfl)
                  try simp only [List.getElem_toArray, List.getElem_cons_succ, List.getElem_cons_zero, Act.put, List.setIfInBounds_toArray, List.set_cons_zero, List.set_cons_succ]
                  refine wpAnyG_take (L := 20) (i := 2) (v := .int .i64 i) rfl (by kernel_rfl) (by kernel_rfl) (by kernel_rfl) (by kernel_rfl) (fun _ _ _ h => h) (by rfl) hS0 (fun wS hS => ?_) ?_
                  · obtain ⟨hq0, hq1, hq2, hq3, hq4, hq5⟩ := hS
                    first | (go_simp; done) | (go_simp; with_reducible rfl)
                  try simp only [List.getElem_toArray, List.getElem_cons_succ, List.getElem_cons_zero, Act.put, List.setIfInBounds_toArray, List.set_cons_zero, List.set_cons_succ]
                  refine wpAnyG_take (L := 20) (i := 3) (v := .pointer (some ⟨g, i * 2, none⟩)) rfl (by kernel_rfl) (by kernel_rfl) (by kernel_rfl) (by kernel_rfl) (fun _ _ _ h => h) (by rfl) hS0 (fun wS hS => ?_) ?_
                  · obtain ⟨hq0, hq1, hq2, hq3, hq4, hq5⟩ := hS
                    first | (go_simp; done) | (go_simp; with_reducible rfl)
                  try simp only [List.getElem_toArray, List.getElem_cons_succ, List.getElem_cons_zero, Act.put, List.setIfInBounds_toArray, List.set_cons_zero, List.set_cons_succ]
                  refine wpAnyG_take (L := 20) (i := 4) (v := .pointer (some ⟨g, i * 2 + 1, none⟩)) rfl (by kernel_rfl) (by kernel_rfl) (by kernel_rfl) (by kernel_rfl) (fun _ _ _ h => h) (by rfl) hS0 (fun wS hS => ?_) ?_
                  · obtain ⟨hq0, hq1, hq2, hq3, hq4, hq5⟩ := hS
                    first | (go_simp; done) | (go_simp; with_reducible rfl)
                  try simp only [List.getElem_toArray, List.getElem_cons_succ, List.getElem_cons_zero, Act.put, List.setIfInBounds_toArray, List.set_cons_zero, List.set_cons_succ]
                  refine wpAnyG_take (L := 20) (i := 5) (v := .slice (some ⟨gf, 0, none⟩) m.values.length cf) rfl (by kernel_rfl) (by kernel_rfl) (by kernel_rfl) (by kernel_rfl) (fun _ _ _ h => h) (by rfl) hS0 (fun wS hS => ?_) ?_
                  · obtain ⟨hq0, hq1, hq2, hq3, hq4, hq5⟩ := hS
                    first | (go_simp; done) | (go_simp; with_reducible rfl)
                  try simp only [List.getElem_toArray, List.getElem_cons_succ, List.getElem_cons_zero, Act.put, List.setIfInBounds_toArray, List.set_cons_zero, List.set_cons_succ]
                  refine wpAnyG_take (L := 20) (i := 6) (v := .int .i64 m.values.length) rfl (by kernel_rfl) (by kernel_rfl) (by kernel_rfl) (by kernel_rfl) (fun _ _ _ h => h) (by rfl) hS0 (fun wS hS => ?_) ?_
                  · obtain ⟨hq0, hq1, hq2, hq3, hq4, hq5⟩ := hS
                    first | (go_simp; done) | (go_simp; with_reducible rfl)
                  try simp only [List.getElem_toArray, List.getElem_cons_succ, List.getElem_cons_zero, Act.put, List.setIfInBounds_toArray, List.set_cons_zero, List.set_cons_succ]
                  refine wpAnyG_take (L := 20) (i := 7) (v := .int .i64 ((m.values.length : Int) - 1)) rfl (by kernel_rfl) (by kernel_rfl) (by kernel_rfl) (by kernel_rfl) (fun _ _ _ h => h) (by rfl) hS0 (fun wS hS => ?_) ?_
                  · obtain ⟨hq0, hq1, hq2, hq3, hq4, hq5⟩ := hS
                    first | (go_simp; done) | (go_simp; with_reducible rfl)
                  try simp only [List.getElem_toArray, List.getElem_cons_succ, List.getElem_cons_zero, Act.put, List.setIfInBounds_toArray, List.set_cons_zero, List.set_cons_succ]
                  refine wpAnyG_take (L := 20) (i := 8) (v := .int .i64 k) rfl (by kernel_rfl) (by kernel_rfl) (by kernel_rfl) (by kernel_rfl) (fun _ _ _ h => h) (by rfl) hS0 (fun wS hS => ?_) ?_
                  · obtain ⟨hq0, hq1, hq2, hq3, hq4, hq5⟩ := hS
                    first | (go_simp; done) | (go_simp; with_reducible rfl)
                  try simp only [List.getElem_toArray, List.getElem_cons_succ, List.getElem_cons_zero, Act.put, List.setIfInBounds_toArray, List.set_cons_zero, List.set_cons_succ]
                  refine wpAnyG_take (L := 20) (i := 9) (v := .int .i64 j) rfl (by kernel_rfl) (by kernel_rfl) (by kernel_rfl) (by kernel_rfl) (fun _ _ _ h => h) (by rfl) hS0 (fun wS hS => ?_) ?_
                  · obtain ⟨hq0, hq1, hq2, hq3, hq4, hq5⟩ := hS
                    first | (go_simp; done) | (go_simp; with_reducible rfl)
                  try simp only [List.getElem_toArray, List.getElem_cons_succ, List.getElem_cons_zero, Act.put, List.setIfInBounds_toArray, List.set_cons_zero, List.set_cons_succ]
                  refine wpAnyG_take (L := 20) (i := 10) (v := .pointer (some ⟨w.heap.size, 2, none⟩)) rfl (by kernel_rfl) (by kernel_rfl) (by kernel_rfl) (by kernel_rfl) (fun _ _ _ h => h) (by rfl) hS0 (fun wS hS => ?_) ?_
                  · obtain ⟨hq0, hq1, hq2, hq3, hq4, hq5⟩ := hS
                    first | (go_simp; done) | (go_simp; with_reducible rfl)
                  try simp only [List.getElem_toArray, List.getElem_cons_succ, List.getElem_cons_zero, Act.put, List.setIfInBounds_toArray, List.set_cons_zero, List.set_cons_succ]
                  refine wpAnyG_take (L := 20) (i := 11) (v := .slice (some ⟨b, bo, none⟩) x.enums.length ec) rfl (by kernel_rfl) (by kernel_rfl) (by kernel_rfl) (by kernel_rfl) (fun _ _ _ h => h) (by rfl) hS0 (fun wS hS => ?_) ?_
                  · obtain ⟨hq0, hq1, hq2, hq3, hq4, hq5⟩ := hS
                    first | (go_simp; done) | (go_simp; with_reducible rfl)
                  try simp only [List.getElem_toArray, List.getElem_cons_succ, List.getElem_cons_zero, Act.put, List.setIfInBounds_toArray, List.set_cons_zero, List.set_cons_succ]
                  refine wpAnyG_take (L := 20) (i := 12) (v := .int .i64 i) rfl (by kernel_rfl) (by kernel_rfl) (by kernel_rfl) (by kernel_rfl) (fun _ _ _ h => h) (by rfl) hS0 (fun wS hS => ?_) ?_
                  · obtain ⟨hq0, hq1, hq2, hq3, hq4, hq5⟩ := hS
                    first | (go_simp; done) | (go_simp; with_reducible rfl)
                  try simp only [List.getElem_toArray, List.getElem_cons_succ, List.getElem_cons_zero, Act.put, List.setIfInBounds_toArray, List.set_cons_zero, List.set_cons_succ]
                  refine wpAnyG_take (L := 20) (i := 13) (v := .pointer (some ⟨b, bo + i * 2, none⟩)) rfl (by kernel_rfl) (by kernel_rfl) (by kernel_rfl) (by kernel_rfl) (fun _ _ _ h => h) (by rfl) hS0 (fun wS hS => ?_) ?_
                  · obtain ⟨hq0, hq1, hq2, hq3, hq4, hq5⟩ := hS
                    first | (go_simp; done) | (go_simp; with_reducible rfl)
                  try simp only [List.getElem_toArray, List.getElem_cons_succ, List.getElem_cons_zero, Act.put, List.setIfInBounds_toArray, List.set_cons_zero, List.set_cons_succ]
                  refine wpAnyG_take (L := 20) (i := 14) (v := .pointer (some ⟨b, bo + i * 2 + 1, none⟩)) rfl (by kernel_rfl) (by kernel_rfl) (by kernel_rfl) (by kernel_rfl) (fun _ _ _ h => h) (by rfl) hS0 (fun wS hS => ?_) ?_
                  · obtain ⟨hq0, hq1, hq2, hq3, hq4, hq5⟩ := hS
                    first | (go_simp; done) | (go_simp; with_reducible rfl)
                  try simp only [List.getElem_toArray, List.getElem_cons_succ, List.getElem_cons_zero, Act.put, List.setIfInBounds_toArray, List.set_cons_zero, List.set_cons_succ]
                  refine wpAnyG_take (L := 20) (i := 15) (v := .slice (some ⟨fb, fo, none⟩) m.values.length sfc) rfl (by kernel_rfl) (by kernel_rfl) (by kernel_rfl) (by kernel_rfl) (fun _ _ _ h => h) (by rfl) hS0 (fun wS hS => ?_) ?_
                  · obtain ⟨hq0, hq1, hq2, hq3, hq4, hq5⟩ := hS
                    first | (go_simp; done) | (go_simp; with_reducible rfl)
                  try simp only [List.getElem_toArray, List.getElem_cons_succ, List.getElem_cons_zero, Act.put, List.setIfInBounds_toArray, List.set_cons_zero, List.set_cons_succ]
                  refine wpAnyG_take (L := 20) (i := 16) (v := .int .i64 k) rfl (by kernel_rfl) (by kernel_rfl) (by kernel_rfl) (by kernel_rfl) (fun _ _ _ h => h) (by rfl) hS0 (fun wS hS => ?_) ?_
                  · obtain ⟨hq0, hq1, hq2, hq3, hq4, hq5⟩ := hS
                    first | (go_simp; done) | (go_simp; with_reducible rfl)
                  try simp only [List.getElem_toArray, List.getElem_cons_succ, List.getElem_cons_zero, Act.put, List.setIfInBounds_toArray, List.set_cons_zero, List.set_cons_succ]
                  refine wpAnyG_take (L := 20) (i := 17) (v := .pointer (some ⟨fb, fo + k * 2, none⟩)) rfl (by kernel_rfl) (by kernel_rfl) (by kernel_rfl) (by kernel_rfl) (fun _ _ _ h => h) (by rfl) hS0 (fun wS hS => ?_) ?_
                  · obtain ⟨hq0, hq1, hq2, hq3, hq4, hq5⟩ := hS
                    first | (go_simp; done) | (go_simp; with_reducible rfl)
                  try simp only [List.getElem_toArray, List.getElem_cons_succ, List.getElem_cons_zero, Act.put, List.setIfInBounds_toArray, List.set_cons_zero, List.set_cons_succ]
                  refine wpAnyG_take (L := 20) (i := 18) (v := .agg #[.string fn, .int .i64 ft]) rfl (by kernel_rfl) (by kernel_rfl) (by kernel_rfl) (by kernel_rfl) (fun _ _ _ h => h) (by rfl) hS0 (fun wS hS => ?_) ?_
                  · obtain ⟨hq0, hq1, hq2, hq3, hq4, hq5⟩ := hS
                    first | (go_simp; done) | (go_simp; with_reducible rfl)
                  try simp only [List.getElem_toArray, List.getElem_cons_succ, List.getElem_cons_zero, Act.put, List.setIfInBounds_toArray, List.set_cons_zero, List.set_cons_succ]
                  refine wpAnyG_take (L := 20) (i := 19) (v := .pointer (some ⟨gf, j * 2, none⟩)) rfl (by kernel_rfl) (by kernel_rfl) (by kernel_rfl) (by kernel_rfl) (fun _ _ _ h => h) (by rfl) hS0 (fun wS hS => ?_) ?_
                  · obtain ⟨hq0, hq1, hq2, hq3, hq4, hq5⟩ := hS
                    first | (go_simp; done) | (go_simp; with_reducible rfl)
                  try simp only [List.getElem_toArray, List.getElem_cons_succ, List.getElem_cons_zero, Act.put, List.setIfInBounds_toArray, List.set_cons_zero, List.set_cons_succ]
                  refine wpAnyG_one (i := 20) rfl (by kernel_rfl) (fun K hK => ?_)
                  simp (proj := false) only [List.getElem_toArray, List.getElem_cons_succ, List.getElem_cons_zero]
                  go_simp
                  refine hK.out _ _ (fun h => absurd rfl h) ?_
                  clear hK K
                  try simp only [List.getElem_toArray, List.getElem_cons_succ, List.getElem_cons_zero, Act.put, List.setIfInBounds_toArray, List.set_cons_zero, List.set_cons_succ]
                  refine wpAnyG_done (by kernel_rfl) ?_
                  replace hjz := Lib.hid hjz; replace hS0 := Lib.hid hS0; clear hw1 hw2 hw3
                  have hwk : IntKind.i64.wrap ((k : Int) + 1) = ((k + 1 : Nat) : Int) := by rw [IntWalk.i64_in _ (by have := hmm.out; omega)]; simp
                  go_wp2
                  go_roundw
                  case rel => exact ⟨k + 1, by omega, by go_num, hfin.out.drew⟩
                  case measure => simp [intOf]; omega
                · obtain rfl : k = m.values.length := by omega
                  rw [turnL_full] at hok
                  have hfin := Lib.hid (show OrdS w #[.string x.name, .slice mA x.messages.length mc, .slice (some ⟨b, bo, none⟩) x.enums.length ec, .slice cA x.methods.length cc] w4.heap.size w4.heap.size x (x.messages.map revM) (turnTo revE x.enums (i + 1)) (.slice tmA x.messages.length tmc) (.slice (some ⟨g, 0, none⟩) x.enums.length tec) (.slice tcA x.methods.length tcc) wr from by rw [htk.out]; exact hok)
                  replace hok := Lib.hid hok
                  have hl9 := hmo.out.enums
                  have hwi : IntKind.i64.wrap ((i : Int) + 1) = ((i + 1 : Nat) : Int) := by rw [IntWalk.i64_in _ (by omega)]; simp
                  go_wp2
                  go_roundw
                  case rel => exact ⟨i + 1, by omega, by go_num, hfin.out⟩
                  case measure => simp [intOf]; omega
            · obtain rfl : i = x.enums.length := by omega
              rw [turnTo_full] at ho
              have hE : Hid (EndK w x (.slice mA x.messages.length mc) (.slice eA x.enums.length ec) (.slice cA x.methods.length cc)) := Lib.hid ⟨hS.out, hT.out, brief_prints hbr.out hf.out hmo.out, hbr.out.mild, hz.out⟩
              have hF : EndS w #[.string x.name, .slice mA x.messages.length mc, .slice eA x.enums.length ec, .slice cA x.methods.length cc] w4.heap.size w4.heap.size x (.slice tmA x.messages.length tmc) (.slice teA x.enums.length tec) (.slice tcA x.methods.length tcc) wr.drew := ho.drew
              obtain ⟨wz, rfl⟩ : ∃ wo : World, wo = wr := ⟨_, rfl⟩
              have hC0 := hF.cells
              clear hs1 ho
              go_wp2
              go_region_held3 (fun W => W.cell? ⟨w.heap.size, 0, none⟩ = some (.string x.name) ∧ W.cell? ⟨w.heap.size, 1, none⟩ = some (.slice mA x.messages.length mc) ∧ W.cell? ⟨w.heap.size, 2, none⟩ = some (.slice eA x.enums.length ec) ∧ W.cell? ⟨w.heap.size, 3, none⟩ = some (.slice cA x.methods.length cc) ∧ W.cell? ⟨w4.heap.size, 0, none⟩ = some (.string x.name) ∧ W.cell? ⟨w4.heap.size, 1, none⟩ = some (.slice tmA x.messages.length tmc) ∧ W.cell? ⟨w4.heap.size, 2, none⟩ = some (.slice teA x.enums.length tec) ∧ W.cell? ⟨w4.heap.size, 3, none⟩ = some (.slice tcA x.methods.length tcc))
                (first | assumption)
                (first | (go_at_call 15; ((with_reducible refine (end_turned2 hE.out (by assumption) (by assumption)).mono ?_); rintro e w' ⟨rfl, hC, hF, hR⟩)) | (go_at_call 15; ((with_reducible refine (end_turned hE.out (by assumption)).mono ?_); rintro e w' ⟨rfl, hC, hF, _⟩)) | (go_at_call 11; ((with_reducible refine (end_copy hE.out (by assumption)).mono ?_); rintro e w' ⟨um, ue, uc, rfl, hC, hF, hR⟩)) | (go_at_call 15; ((with_reducible refine (end_copied hE.out (by assumption) (by assumption)).mono ?_); rintro e w' ⟨rfl, hC, hF⟩)) | (go_at_call 17; ((with_reducible refine (end_same hE.out (by assumption)).mono ?_); rintro e w' ⟨rfl, hC, hF⟩)) | (go_at_call 10; ((with_reducible refine (end_awake hE.out (by assumption)).mono ?_); rintro e w' ⟨rfl, hC, hF⟩)))
              all_goals
                have hfin := Lib.hid (OrdS.below (by assumption : EndS w _ _ _ _ _ _ _ _))
                go_wp2
                go_ret
                exact ⟨rfl, hfin.out⟩
    · have hz' : ((checkP x : Int) != 0) = true := by simpa using hz
      replace hz := Lib.hid hz
      have cA := awake_calls w3 (hT.out.below hck3.below)
      replace cA := Lib.hid cA; replace hck3 := Lib.hid hck3
      go_wp2_with fail
      refine cA.out.mono ?_; rintro e w4 ⟨rfl, hb4⟩
      have hfin := Lib.hid (hck3.out.under hb4).below
      replace hb4 := Lib.hid hb4
      go_wp2
      go_ret
      exact ⟨rfl, hfin.out⟩

end Go.Proofs.YtkpgaccgcdoijaaGreatDoor


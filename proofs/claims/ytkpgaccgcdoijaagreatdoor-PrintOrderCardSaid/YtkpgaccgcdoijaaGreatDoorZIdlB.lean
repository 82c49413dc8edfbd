import Derived.Test.YtkpgaccgcdoijaaGreatDoorZIdlA
import Derived.Deep.CutBlock
import Derived.Deep.RegionHeld3
namespace Go.Proofs.YtkpgaccgcdoijaaGreatDoor
open Go.RowKit

def fieldCells (f : FieldD) : List Value := [.string f.name, .int .i64 f.tag, .int .i64 f.label, .int .i64 f.kind, .string f.tname]
def fieldVal (f : FieldD) : Value := .agg #[.string f.name, .int .i64 f.tag, .int .i64 f.label, .int .i64 f.kind, .string f.tname]

theorem blk_cell {w : World} {g : Nat} {cs : Array Value} {t : TypeId} (h : w.heap[g]? = some (.cells cs t (0, 0))) (i : Nat) : w.cell? ⟨g, i, none⟩ = cs[i]? := by simp [World.cell?, h]
theorem blk_frozen {w : World} {g : Nat} {cs : Array Value} {t : TypeId} (h : w.heap[g]? = some (.cells cs t (0, 0))) (i : Nat) : w.frozen? ⟨g, i, none⟩ = false := by simp [World.frozen?, h]
theorem blk_lt {w : World} {g : Nat} {o : Obj} (h : w.heap[g]? = some o) : g < w.heap.size := (Array.getElem?_eq_some_iff.1 h).1
theorem blk_alloc {w : World} {g : Nat} {o : Obj} (h : w.heap[g]? = some o) (o' : Obj) : (w.alloc o').heap[g]? = some o := (Below.heap_alloc w o' g (blk_lt h)).trans h
theorem blk_set {w : World} {g : Nat} {o : Obj} (h : w.heap[g]? = some o) {a : Addr} (ha : g ≠ a.block) (v : Value) : (w.setCell a v).heap[g]? = some o := (Below.heap_setCell w a v g ha).trans h
theorem blk_grown {w w' : World} {g k : Nat} {o : Obj} (h : w.heap[k]? = some o) (hg : w.grownBy w' (some g)) (hne : k ≠ g) : w'.heap[k]? = some o := (hg.block k (blk_lt h) (by simpa using hne)).trans h

/-- needs of some words, their list laid just ahead (in block n). -/
theorem needs_lit (N g : Nat) (ts : List ByteArray) (cs : Array Value) (hcs : cs = (ts.map Value.string).toArray) (s : St) (W : World) (n m : Nat) (hn : W.heap.size = n) (hm : ts.length = m) (h : PS N g s W) (hN : N ≤ n) (hl : m ≤ 100) :
    Calls Tryz.prog 106 #[.pointer (some ⟨g, 0, none⟩), .slice (some ⟨n, 0, none⟩) m m] (W.alloc (.cells cs 9)) fun e w' => (∃ v, e = .returned v) ∧ PS N g (needsS ts s) w' ∧ W.grownBy w' (some g) := by
  subst hn hm hcs
  have hg := h.1.1
  refine (needs_calls N g ts W.heap.size s _ (h.alloc hN _) (by simp; omega) (by simp) (by omega) hl (fun j u hj => ?_)).mono ?_
  · rw [blk_cell (heap_alloc_new W _)]
    simp [hj]
  · rintro e w' ⟨h1, h2, h3⟩
    exact ⟨h1, h2, grown_trans (World.grownBy_alloc _ _ _) h3⟩
theorem needs_one (N g : Nat) (t : ByteArray) (s : St) (W : World) (n : Nat) (hn : W.heap.size = n) (h : PS N g s W) (hN : N ≤ n) :
    Calls Tryz.prog 106 #[.pointer (some ⟨g, 0, none⟩), .slice (some ⟨n, 0, none⟩) 1 1] (W.alloc (.cells #[.string t] 9)) fun e w' => (∃ v, e = .returned v) ∧ PS N g (needsS [t] s) w' ∧ W.grownBy w' (some g) :=
  needs_lit N g [t] _ rfl s W n 1 hn rfl h hN (by omega)

theorem setCell_size (w : World) (a : Addr) (v : Value) : (w.setCell a v).heap.size = w.heap.size := by simp [World.setCell]

set_option maxHeartbeats 4000000 in
set_option maxRecDepth 100000 in
theorem field_calls (N g : Nat) (s : St) (w : World) (h : PS N g s w) (hT : Tabs w) (hN : N ≤ w.heap.size) (hz : s.Small) :
    Calls Tryz.prog 145 #[.pointer (some ⟨g, 0, none⟩)] w fun e w' => e = .returned (fieldVal (fieldV s)) ∧ PS N g (fieldS s) w' ∧ w.grownBy w' (some g) := by
  have hgN := h.1.1
  have hgT := h.1.2
  have h' := Lib.hid h
  clear h
  have hfv : fieldV s = { label := labelV s, kind := (kindQ (labelS s)).1, tname := (kindQ (labelS s)).2.1, name := nameV (kindQ (labelS s)).2.2, tag := numberV (needsS [w_eq] (nameS (kindQ (labelS s)).2.2)) } := rfl
  have hfs : fieldS s = needsS [w_semi] (numberS (needsS [w_eq] (nameS (kindQ (labelS s)).2.2))) := rfl
  replace hfv := Lib.hid hfv; replace hfs := Lib.hid hfs
  have cO := fun W hW => takes_calls N g w_opt s W hW
  have cR := fun W hW => takes_calls N g w_rep s W hW
  have hlv : labelV s = if looksB w_opt s then 2 else if looksB w_rep s then 3 else 1 := rfl
  have hls : labelS s = if looksB w_opt s then takesS w_opt s else takesS w_rep s := rfl
  have hto : looksB w_opt s = false → takesS w_opt s = s := fun hh => by simp [takesS, hh]
  have htr : looksB w_rep s = false → takesS w_rep s = s := fun hh => by simp [takesS, hh]
  have hzl := hz.label
  generalize looksB w_opt s = q1 at cO hlv hls hto
  generalize looksB w_rep s = q2 at cR hlv hls htr
  replace cO := Lib.hid cO; replace cR := Lib.hid cR; replace hlv := Lib.hid hlv; replace hls := Lib.hid hls; replace hto := Lib.hid hto; replace htr := Lib.hid htr
  have hways : q1 = true ∨ (q1 = false ∧ q2 = true ∧ Hid (takesS w_opt s = s)) ∨ (q1 = false ∧ q2 = false ∧ Hid (takesS w_opt s = s)) := by
    cases q1
    · have := Lib.hid (hto.out rfl)
      cases q2
      · exact .inr (.inr ⟨rfl, rfl, this⟩)
      · exact .inr (.inl ⟨rfl, rfl, this⟩)
    · exact .inl rfl
  have hst : ∀ W, W = ((w.alloc (.cells #[.string noText, .int .i64 0, .int .i64 0, .int .i64 0, .string noText] 44)).alloc (.cells #[.string noText, .int .i64 0, .int .i64 1, .int .i64 0, .string noText] 44)) →
      PS N g s W ∧ w.grownBy W (some g) ∧ W.heap[w.heap.size]? = some (.cells #[.string noText, .int .i64 0, .int .i64 0, .int .i64 0, .string noText] 44 (0, 0)) ∧ W.heap[w.heap.size + 1]? = some (.cells #[.string noText, .int .i64 0, .int .i64 1, .int .i64 0, .string noText] 44 (0, 0)) := by
    intro W hW
    subst hW
    refine ⟨(h'.out.alloc hN _).alloc (by simp; omega) _, grown_trans (World.grownBy_alloc _ _ _) (World.grownBy_alloc _ _ _), blk_alloc (heap_alloc_new _ _) _, ?_⟩
    have := heap_alloc_new (w.alloc (.cells #[.string noText, .int .i64 0, .int .i64 0, .int .i64 0, .string noText] 44)) (.cells #[.string noText, .int .i64 0, .int .i64 1, .int .i64 0, .string noText] 44)
    simpa using this
  replace hst := Lib.hid hst
  go_enter Tryz.func145, Tryz.ntmps145
  go_upto_block 0 with fail
  go_cut [] (fun wx => PS N g (labelS s) wx ∧ w.grownBy wx (some g) ∧ wx.heap[w.heap.size]? = some (.cells #[.string noText, .int .i64 0, .int .i64 0, .int .i64 0, .string noText] 44 (0, 0)) ∧ wx.heap[w.heap.size + 1]? = some (.cells #[.string noText, .int .i64 0, .int .i64 (labelV s), .int .i64 0, .string noText] 44 (0, 0)))
  case first =>
    have hq := hst.out _ rfl
    rcases hways with rfl | ⟨rfl, rfl, htq⟩ | ⟨rfl, rfl, htq⟩
    · have hL := Lib.hid (show labelV s = 2 by rw [hlv.out]; rfl)
      have hS := Lib.hid (show labelS s = takesS w_opt s by rw [hls.out]; rfl)
      go_wp2_with fail
      refine (cO.out _ (hst.out _ rfl).1).mono ?_; rintro e w1 ⟨rfl, hp1, hg1⟩
      have hgr1 := grown_trans hq.2.1 hg1
      have hr1 := blk_grown hq.2.2.1 hg1 (by omega)
      have hx1 := blk_grown hq.2.2.2 hg1 (by omega)
      have hsz1 := hgr1.size
      have hxs1 := blk_lt hx1
      have hc0 := blk_cell hx1 0
      have hf0 := blk_frozen hx1 0
      have hc1 := blk_cell hx1 1
      have hf1 := blk_frozen hx1 1
      have hc2 := blk_cell hx1 2
      have hf2 := blk_frozen hx1 2
      have hc3 := blk_cell hx1 3
      have hf3 := blk_frozen hx1 3
      have hc4 := blk_cell hx1 4
      have hf4 := blk_frozen hx1 4
      simp only [List.getElem?_toArray, List.getElem?_cons_succ, List.getElem?_cons_zero] at hc0 hc1 hc2 hc3 hc4
      replace hp1 := Lib.hid hp1; replace hr1 := Lib.hid hr1; replace hx1 := Lib.hid hx1
      go_wp2_with fail
      go_meet
      refine ⟨by rw [hS.out]; exact hp1.out.setCell (by simp only; omega) _, grown_set hgr1 (by simp only; omega) _, blk_set hr1.out (by simp only; omega) _, ?_⟩
      rw [hL.out]
      exact setCell_heap hx1.out 2 (.int .i64 2)
    · have hL := Lib.hid (show labelV s = 3 by rw [hlv.out]; rfl)
      have hS := Lib.hid (show labelS s = takesS w_rep s by rw [hls.out]; rfl)
      go_wp2_with fail
      refine (cO.out _ (hst.out _ rfl).1).mono ?_; rintro e w1 ⟨rfl, hp1, hg1⟩
      have hgr1 := grown_trans hq.2.1 hg1
      have hr1 := blk_grown hq.2.2.1 hg1 (by omega)
      have hx1 := blk_grown hq.2.2.2 hg1 (by omega)
      have hsz1 := hgr1.size
      have hxs1 := blk_lt hx1
      rw [htq.out] at hp1
      replace hp1 := Lib.hid hp1; replace hr1 := Lib.hid hr1; replace hx1 := Lib.hid hx1
      go_wp2_with fail
      refine (cR.out _ hp1.out).mono ?_; rintro e w2 ⟨rfl, hp2, hg2⟩
      have hgr2 := grown_trans hgr1 hg2
      have hr2 := blk_grown hr1.out hg2 (by omega)
      have hx2 := blk_grown hx1.out hg2 (by omega)
      have hc0 := blk_cell hx2 0
      have hf0 := blk_frozen hx2 0
      have hc1 := blk_cell hx2 1
      have hf1 := blk_frozen hx2 1
      have hc2 := blk_cell hx2 2
      have hf2 := blk_frozen hx2 2
      have hc3 := blk_cell hx2 3
      have hf3 := blk_frozen hx2 3
      have hc4 := blk_cell hx2 4
      have hf4 := blk_frozen hx2 4
      simp only [List.getElem?_toArray, List.getElem?_cons_succ, List.getElem?_cons_zero] at hc0 hc1 hc2 hc3 hc4
      replace hp2 := Lib.hid hp2; replace hr2 := Lib.hid hr2; replace hx2 := Lib.hid hx2
      go_wp2_with fail
      go_meet
      refine ⟨by rw [hS.out]; exact hp2.out.setCell (by simp only; omega) _, grown_set hgr2 (by simp only; omega) _, blk_set hr2.out (by simp only; omega) _, ?_⟩
      rw [hL.out]
      exact setCell_heap hx2.out 2 (.int .i64 3)
    · have hL := Lib.hid (show labelV s = 1 by rw [hlv.out]; rfl)
      have hS := Lib.hid (show labelS s = takesS w_rep s by rw [hls.out]; rfl)
      go_wp2_with fail
      refine (cO.out _ (hst.out _ rfl).1).mono ?_; rintro e w1 ⟨rfl, hp1, hg1⟩
      have hgr1 := grown_trans hq.2.1 hg1
      have hr1 := blk_grown hq.2.2.1 hg1 (by omega)
      have hx1 := blk_grown hq.2.2.2 hg1 (by omega)
      have hsz1 := hgr1.size
      have hxs1 := blk_lt hx1
      rw [htq.out] at hp1
      replace hp1 := Lib.hid hp1; replace hr1 := Lib.hid hr1; replace hx1 := Lib.hid hx1
      go_wp2_with fail
      refine (cR.out _ hp1.out).mono ?_; rintro e w2 ⟨rfl, hp2, hg2⟩
      have hgr2 := grown_trans hgr1 hg2
      have hr2 := blk_grown hr1.out hg2 (by omega)
      have hx2 := blk_grown hx1.out hg2 (by omega)
      replace hp2 := Lib.hid hp2; replace hr2 := Lib.hid hr2; replace hx2 := Lib.hid hx2
      go_wp2_with fail
      go_meet
      exact ⟨by rw [hS.out]; exact hp2.out, hgr2, hr2.out, by rw [hL.out]; exact hx2.out⟩
  case rest =>
    obtain ⟨hp2, hgr2, hr2, hx2⟩ := hcut
    clear hst hto htr hlv hls cO cR hways
    have hT2 := hT.grown hgr2 hgT (by omega)
    have hN2 : N ≤ wc.heap.size := Nat.le_trans hN hgr2.size
    have hzk := hzl.kind
    have cK := kind_calls N g (labelS s) wc hp2 hT2 hN2 hzl
    generalize labelV s = L at hfv hx2
    generalize (kindQ (labelS s)).1 = K at hfv cK
    generalize (kindQ (labelS s)).2.1 = TN at hfv cK
    generalize (kindQ (labelS s)).2.2 = s3 at hfv hfs cK hzk
    replace cK := Lib.hid cK; replace hr2 := Lib.hid hr2; replace hx2 := Lib.hid hx2; replace hp2 := Lib.hid hp2; replace hT2 := Lib.hid hT2; replace hN2 := Lib.hid hN2
    go_wp2_with fail
    refine cK.out.mono ?_; rintro e w3 ⟨rfl, hp3, hg3⟩
    have hgr3 := grown_trans hgr2 hg3
    have hr3 := blk_grown hr2.out hg3 (by omega)
    have hx3 := blk_grown hx2.out hg3 (by omega)
    have hxs3 := blk_lt hx3
    clear cK hg3 hr2 hx2 hp2 hT2 hN2 hgr2
    have hc0 := blk_cell hx3 0
    have hf0 := blk_frozen hx3 0
    have hc1 := blk_cell hx3 1
    have hf1 := blk_frozen hx3 1
    have hc2 := blk_cell hx3 2
    have hf2 := blk_frozen hx3 2
    have hc3 := blk_cell hx3 3
    have hf3 := blk_frozen hx3 3
    have hc4 := blk_cell hx3 4
    have hf4 := blk_frozen hx3 4
    simp only [List.getElem?_toArray, List.getElem?_cons_succ, List.getElem?_cons_zero] at hc0 hc1 hc2 hc3 hc4
    have hN3 : N ≤ w3.heap.size := by omega
    have hp3' : PS N g s3 ((w3.setCell ⟨w.heap.size + 1, 3, none⟩ (.int .i64 K)).setCell ⟨w.heap.size + 1, 4, none⟩ (.string TN)) := (hp3.setCell (by simp only; omega) _).setCell (by simp only; omega) _
    have hg3' := grown_set (grown_set hgr3 (a := ⟨w.heap.size + 1, 3, none⟩) (by simp only; omega) (.int .i64 K)) (a := ⟨w.heap.size + 1, 4, none⟩) (by simp only; omega) (.string TN)
    have hr3' := blk_set (blk_set hr3 (a := ⟨w.heap.size + 1, 3, none⟩) (by simp only; omega) (.int .i64 K)) (a := ⟨w.heap.size + 1, 4, none⟩) (by simp only; omega) (.string TN)
    have hx3' := setCell_heap (setCell_heap hx3 3 (.int .i64 K)) 4 (.string TN)
    have hT3' := hT.grown hg3' hgT (by omega)
    have cN := pname_calls N g s3 _ hp3' hT3' (Nat.le_trans hN hg3'.size) hzk
    have hz4 := hzk.name
    generalize nameV s3 = NM at hfv cN
    generalize nameS s3 = s4 at hfv hfs cN hz4
    replace cN := Lib.hid cN; replace hr3' := Lib.hid hr3'; replace hx3' := Lib.hid hx3'; replace hg3' := Lib.hid hg3'
    clear hp3 hgr3 hr3 hx3 hxs3 hp3' hT3' hzk
    go_wp2_with fail
    refine cN.out.mono ?_; rintro e w4 ⟨rfl, hp4, hg4⟩
    have hgr4 := grown_trans hg3'.out hg4
    have hr4 := blk_grown hr3'.out hg4 (by omega)
    have hx4 : w4.heap[w.heap.size + 1]? = some (.cells #[.string noText, .int .i64 0, .int .i64 L, .int .i64 K, .string TN] 44 (0, 0)) := blk_grown hx3'.out hg4 (by omega)
    have hxs4 := blk_lt hx4
    clear cN hg4 hr3' hx3' hg3' hc0 hf0 hc1 hf1 hc2 hf2 hc3 hf3 hc4 hf4
    have hc0 := blk_cell hx4 0
    have hf0 := blk_frozen hx4 0
    have hc1 := blk_cell hx4 1
    have hf1 := blk_frozen hx4 1
    have hc2 := blk_cell hx4 2
    have hf2 := blk_frozen hx4 2
    have hc3 := blk_cell hx4 3
    have hf3 := blk_frozen hx4 3
    have hc4 := blk_cell hx4 4
    have hf4 := blk_frozen hx4 4
    simp only [List.getElem?_toArray, List.getElem?_cons_succ, List.getElem?_cons_zero] at hc0 hc1 hc2 hc3 hc4
    have hp4' : PS N g s4 (w4.setCell ⟨w.heap.size + 1, 0, none⟩ (.string NM)) := hp4.setCell (by simp only; omega) _
    have hg4' := grown_set hgr4 (a := ⟨w.heap.size + 1, 0, none⟩) (by simp only; omega) (.string NM)
    have hr4' := blk_set hr4 (a := ⟨w.heap.size + 1, 0, none⟩) (by simp only; omega) (.string NM)
    have hx4' := setCell_heap hx4 0 (.string NM)
    have cE := needs_one N g w_eq s4 _ w4.heap.size (setCell_size _ _ _) hp4' (by omega)
    have hz5 := hz4.needs [w_eq]
    generalize needsS [w_eq] s4 = s5 at hfv hfs cE hz5
    replace cE := Lib.hid cE; replace hr4' := Lib.hid hr4'; replace hx4' := Lib.hid hx4'; replace hg4' := Lib.hid hg4'
    clear hp4 hgr4 hr4 hx4 hxs4 hp4' hz4
    go_wp2_with fail
    refine cE.out.mono ?_; rintro e w5 ⟨⟨v5, rfl⟩, hp5, hg5⟩
    have hgr5 := grown_trans hg4'.out hg5
    have hr5 := blk_grown hr4'.out hg5 (by omega)
    have hx5 : w5.heap[w.heap.size + 1]? = some (.cells #[.string NM, .int .i64 0, .int .i64 L, .int .i64 K, .string TN] 44 (0, 0)) := blk_grown hx4'.out hg5 (by omega)
    have hxs5 := blk_lt hx5
    have cU := pnumber_calls N g s5 w5 hp5 (by omega) hz5
    have hz6 := hz5.number
    generalize numberV s5 = TG at hfv cU
    generalize numberS s5 = s6 at hfs cU hz6
    replace cU := Lib.hid cU; replace hr5 := Lib.hid hr5; replace hx5 := Lib.hid hx5
    clear cE hg5 hr4' hx4' hg4' hp5 hz5 hc0 hf0 hc1 hf1 hc2 hf2 hc3 hf3 hc4 hf4
    go_wp2_with fail
    refine cU.out.mono ?_; rintro e w6 ⟨rfl, hp6, hg6⟩
    have hgr6 := grown_trans hgr5 hg6
    have hr6 := blk_grown hr5.out hg6 (by omega)
    have hx6 := blk_grown hx5.out hg6 (by omega)
    have hxs6 := blk_lt hx6
    clear cU hg6 hr5 hx5 hgr5
    have hc0 := blk_cell hx6 0
    have hf0 := blk_frozen hx6 0
    have hc1 := blk_cell hx6 1
    have hf1 := blk_frozen hx6 1
    have hc2 := blk_cell hx6 2
    have hf2 := blk_frozen hx6 2
    have hc3 := blk_cell hx6 3
    have hf3 := blk_frozen hx6 3
    have hc4 := blk_cell hx6 4
    have hf4 := blk_frozen hx6 4
    simp only [List.getElem?_toArray, List.getElem?_cons_succ, List.getElem?_cons_zero] at hc0 hc1 hc2 hc3 hc4
    have hp6' : PS N g s6 (w6.setCell ⟨w.heap.size + 1, 1, none⟩ (.int .i64 TG)) := hp6.setCell (by simp only; omega) _
    have hg6' := grown_set hgr6 (a := ⟨w.heap.size + 1, 1, none⟩) (by simp only; omega) (.int .i64 TG)
    have hr6' := blk_set hr6 (a := ⟨w.heap.size + 1, 1, none⟩) (by simp only; omega) (.int .i64 TG)
    have hx6' := setCell_heap hx6 1 (.int .i64 TG)
    have cE := needs_one N g w_semi s6 _ w6.heap.size (setCell_size _ _ _) hp6' (by omega)
    generalize needsS [w_semi] s6 = s7 at hfs cE
    replace cE := Lib.hid cE; replace hr6' := Lib.hid hr6'; replace hx6' := Lib.hid hx6'; replace hg6' := Lib.hid hg6'
    clear hp6 hgr6 hr6 hx6 hxs6 hp6' hz6
    go_wp2_with fail
    refine cE.out.mono ?_; rintro e w7 ⟨⟨v7, rfl⟩, hp7, hg7⟩
    have hgr7 := grown_trans hg6'.out hg7
    have hr7 := blk_grown hr6'.out hg7 (by omega)
    have hx7 : w7.heap[w.heap.size + 1]? = some (.cells #[.string NM, .int .i64 TG, .int .i64 L, .int .i64 K, .string TN] 44 (0, 0)) := blk_grown hx6'.out hg7 (by omega)
    have hxs7 := blk_lt hx7
    clear cE hg7 hr6' hx6' hg6' hc0 hf0 hc1 hf1 hc2 hf2 hc3 hf3 hc4 hf4
    have hc0 := blk_cell hx7 0
    have hf0 := blk_frozen hx7 0
    have hc1 := blk_cell hx7 1
    have hf1 := blk_frozen hx7 1
    have hc2 := blk_cell hx7 2
    have hf2 := blk_frozen hx7 2
    have hc3 := blk_cell hx7 3
    have hf3 := blk_frozen hx7 3
    have hc4 := blk_cell hx7 4
    have hf4 := blk_frozen hx7 4
    simp only [List.getElem?_toArray, List.getElem?_cons_succ, List.getElem?_cons_zero] at hc0 hc1 hc2 hc3 hc4
    have hd0 := blk_cell hr7 0
    have he0 := blk_frozen hr7 0
    have hd1 := blk_cell hr7 1
    have he1 := blk_frozen hr7 1
    have hd2 := blk_cell hr7 2
    have he2 := blk_frozen hr7 2
    have hd3 := blk_cell hr7 3
    have he3 := blk_frozen hr7 3
    have hd4 := blk_cell hr7 4
    have he4 := blk_frozen hr7 4
    simp only [List.getElem?_toArray, List.getElem?_cons_succ, List.getElem?_cons_zero] at hd0 hd1 hd2 hd3 hd4
    clear hr7 hx7
    replace hp7 := Lib.hid hp7
    go_wp2
    refine bodyPost_ret (v := .agg #[.string NM, .int .i64 TG, .int .i64 L, .int .i64 K, .string TN]) (by simp [results, Tryz.results145, go_sem, *]) rfl ?_
    rw [hfv.out, hfs.out]
    refine ⟨rfl, ?_, ?_⟩
    · exact ((((hp7.out.setCell (by simpa using hN) _).setCell (by simpa using hN) _).setCell (by simpa using hN) _).setCell (by simpa using hN) _).setCell (by simpa using hN) _
    · exact grown_set (grown_set (grown_set (grown_set (grown_set hgr7 (Nat.le_refl _) _) (Nat.le_refl _) _) (Nat.le_refl _) _) (Nat.le_refl _) _) (Nat.le_refl _) _

end Go.Proofs.YtkpgaccgcdoijaaGreatDoor

namespace Go.Proofs.YtkpgaccgcdoijaaGreatDoor
open Go.RowKit

def methodCells (f : MethodD) : List Value := [.string f.name, .string f.inp, .string f.outp]
def methodVal (f : MethodD) : Value := .agg #[.string f.name, .string f.inp, .string f.outp]

set_option maxHeartbeats 4000000 in
set_option maxRecDepth 100000 in
theorem call_calls (N g : Nat) (s : St) (w : World) (h : PS N g s w) (hT : Tabs w) (hN : N ≤ w.heap.size) (hz : s.Small) :
    Calls Tryz.prog 111 #[.pointer (some ⟨g, 0, none⟩)] w fun e w' => e = .returned (methodVal (callV s)) ∧ PS N g (callS s) w' ∧ w.grownBy w' (some g) := by
  have hgN := h.1.1
  have hgT := h.1.2
  have hv : callV s = { name := nameV s, inp := nameV (needsS [w_lpar] (nameS s)), outp := nameV (needsS [w_rpar, w_returns, w_lpar] (nameS (needsS [w_lpar] (nameS s)))) } := rfl
  have hs : callS s = needsS [w_rpar, w_semi] (nameS (needsS [w_rpar, w_returns, w_lpar] (nameS (needsS [w_lpar] (nameS s))))) := rfl
  replace hv := Lib.hid hv; replace hs := Lib.hid hs
  -- the result's block, then the first name
  have hp0 := h.alloc hN (.cells #[.string noText, .string noText, .string noText] 54)
  have hg0 := World.grownBy_alloc w (.cells #[.string noText, .string noText, .string noText] 54) (some g)
  have hr0 := heap_alloc_new w (.cells #[.string noText, .string noText, .string noText] 54)
  have hT0 := hT.grown hg0 hgT (by omega)
  have cN := pname_calls N g s _ hp0 hT0 (Nat.le_trans hN hg0.size) hz
  have hz1 := hz.name
  generalize nameV s = NM at hv cN
  generalize nameS s = s1 at hv hs cN hz1
  replace cN := Lib.hid cN; replace hr0 := Lib.hid hr0; replace hg0 := Lib.hid hg0
  clear hp0 hT0 h
  go_enter Tryz.func111, Tryz.ntmps111
  go_wp2_with fail
  refine cN.out.mono ?_; rintro e w1 ⟨rfl, hp1, hg1⟩
  have hgr1 := grown_trans hg0.out hg1
  have hr1 := blk_grown hr0.out hg1 (by omega)
  have hrs1 := blk_lt hr1
  clear cN hg1 hr0 hg0
  -- x's block
  have hp1' := hp1.alloc (by omega) (.cells #[.string NM, .string noText, .string noText] 54)
  have hg1' := grown_trans hgr1 (World.grownBy_alloc w1 (.cells #[.string NM, .string noText, .string noText] 54) (some g))
  have hr1' := blk_alloc hr1 (.cells #[.string NM, .string noText, .string noText] 54)
  have hx1' := heap_alloc_new w1 (.cells #[.string NM, .string noText, .string noText] 54)
  have cE := needs_one N g w_lpar s1 _ (w1.heap.size + 1) (by simp) hp1' (by omega)
  have hz2 := hz1.needs [w_lpar]
  generalize needsS [w_lpar] s1 = s2 at hv hs cE hz2
  replace cE := Lib.hid cE; replace hr1' := Lib.hid hr1'; replace hx1' := Lib.hid hx1'; replace hg1' := Lib.hid hg1'
  clear hp1 hgr1 hr1 hp1' hz1
  go_wp2_with fail
  refine cE.out.mono ?_; rintro e w2 ⟨⟨v2, rfl⟩, hp2, hg2⟩
  have hgr2 := grown_trans hg1'.out hg2
  have hr2 := blk_grown hr1'.out hg2 (by omega)
  have hx2 := blk_grown hx1'.out hg2 (by omega)
  have hxs2 := blk_lt hx2
  have hT2 := hT.grown hgr2 hgT (by omega)
  have cN := pname_calls N g s2 w2 hp2 hT2 (by omega) hz2
  have hz3 := hz2.name
  generalize nameV s2 = IN at hv cN
  generalize nameS s2 = s3 at hv hs cN hz3
  replace cN := Lib.hid cN; replace hr2 := Lib.hid hr2; replace hx2 := Lib.hid hx2
  clear cE hg2 hr1' hx1' hg1' hp2 hz2 hT2
  go_wp2_with fail
  refine cN.out.mono ?_; rintro e w3 ⟨rfl, hp3, hg3⟩
  have hgr3 := grown_trans hgr2 hg3
  have hr3 := blk_grown hr2.out hg3 (by omega)
  have hx3 := blk_grown hx2.out hg3 (by omega)
  have hxs3 := blk_lt hx3
  clear cN hg3 hr2 hx2 hgr2
  have hc0 := blk_cell hx3 0
  have hf0 := blk_frozen hx3 0
  have hc1 := blk_cell hx3 1
  have hf1 := blk_frozen hx3 1
  have hc2 := blk_cell hx3 2
  have hf2 := blk_frozen hx3 2
  simp only [List.getElem?_toArray, List.getElem?_cons_succ, List.getElem?_cons_zero] at hc0 hc1 hc2
  have hp3' := hp3.setCell (a := ⟨w1.heap.size, 1, none⟩) (by simp only; omega) (.string IN)
  have hg3' := grown_set hgr3 (a := ⟨w1.heap.size, 1, none⟩) (by simp only; omega) (.string IN)
  have hr3' := blk_set hr3 (a := ⟨w1.heap.size, 1, none⟩) (by simp only; omega) (.string IN)
  have hx3' := setCell_heap hx3 1 (.string IN)
  have cE := needs_lit N g [w_rpar, w_returns, w_lpar] _ rfl s3 _ w3.heap.size 3 (setCell_size _ _ _) rfl hp3' (by omega) (by omega)
  have hz4 := hz3.needs [w_rpar, w_returns, w_lpar]
  generalize needsS [w_rpar, w_returns, w_lpar] s3 = s4 at hv hs cE hz4
  replace cE := Lib.hid cE; replace hr3' := Lib.hid hr3'; replace hx3' := Lib.hid hx3'; replace hg3' := Lib.hid hg3'
  clear hp3 hgr3 hr3 hx3 hp3' hz3
  go_wp2_with fail
  refine cE.out.mono ?_; rintro e w4 ⟨⟨v4, rfl⟩, hp4, hg4⟩
  have hgr4 := grown_trans hg3'.out hg4
  have hr4 := blk_grown hr3'.out hg4 (by omega)
  have hx4 : w4.heap[w1.heap.size]? = some (.cells #[.string NM, .string IN, .string noText] 54 (0, 0)) := blk_grown hx3'.out hg4 (by omega)
  have hxs4 := blk_lt hx4
  have hT4 := hT.grown hgr4 hgT (by omega)
  have cN := pname_calls N g s4 w4 hp4 hT4 (by omega) hz4
  have hz5 := hz4.name
  generalize nameV s4 = OU at hv cN
  generalize nameS s4 = s5 at hs cN hz5
  replace cN := Lib.hid cN; replace hr4 := Lib.hid hr4; replace hx4 := Lib.hid hx4
  clear cE hg4 hr3' hx3' hg3' hp4 hz4 hT4 hc0 hf0 hc1 hf1 hc2 hf2
  go_wp2_with fail
  refine cN.out.mono ?_; rintro e w5 ⟨rfl, hp5, hg5⟩
  have hgr5 := grown_trans hgr4 hg5
  have hr5 := blk_grown hr4.out hg5 (by omega)
  have hx5 := blk_grown hx4.out hg5 (by omega)
  have hxs5 := blk_lt hx5
  clear cN hg5 hr4 hx4 hgr4
  have hc0 := blk_cell hx5 0
  have hf0 := blk_frozen hx5 0
  have hc1 := blk_cell hx5 1
  have hf1 := blk_frozen hx5 1
  have hc2 := blk_cell hx5 2
  have hf2 := blk_frozen hx5 2
  simp only [List.getElem?_toArray, List.getElem?_cons_succ, List.getElem?_cons_zero] at hc0 hc1 hc2
  have hp5' := hp5.setCell (a := ⟨w1.heap.size, 2, none⟩) (by simp only; omega) (.string OU)
  have hg5' := grown_set hgr5 (a := ⟨w1.heap.size, 2, none⟩) (by simp only; omega) (.string OU)
  have hr5' := blk_set hr5 (a := ⟨w1.heap.size, 2, none⟩) (by simp only; omega) (.string OU)
  have hx5' := setCell_heap hx5 2 (.string OU)
  have cE := needs_lit N g [w_rpar, w_semi] _ rfl s5 _ w5.heap.size 2 (setCell_size _ _ _) rfl hp5' (by omega) (by omega)
  generalize needsS [w_rpar, w_semi] s5 = s6 at hs cE
  replace cE := Lib.hid cE; replace hr5' := Lib.hid hr5'; replace hx5' := Lib.hid hx5'; replace hg5' := Lib.hid hg5'
  clear hp5 hgr5 hr5 hx5 hp5' hz5
  go_wp2_with fail
  refine cE.out.mono ?_; rintro e w6 ⟨⟨v6, rfl⟩, hp6, hg6⟩
  have hgr6 := grown_trans hg5'.out hg6
  have hr6 := blk_grown hr5'.out hg6 (by omega)
  have hx6 : w6.heap[w1.heap.size]? = some (.cells #[.string NM, .string IN, .string OU] 54 (0, 0)) := blk_grown hx5'.out hg6 (by omega)
  clear cE hg6 hr5' hx5' hg5' hc0 hf0 hc1 hf1 hc2 hf2
  have hc0 := blk_cell hx6 0
  have hf0 := blk_frozen hx6 0
  have hc1 := blk_cell hx6 1
  have hf1 := blk_frozen hx6 1
  have hc2 := blk_cell hx6 2
  have hf2 := blk_frozen hx6 2
  simp only [List.getElem?_toArray, List.getElem?_cons_succ, List.getElem?_cons_zero] at hc0 hc1 hc2
  have hd0 := blk_cell hr6 0
  have he0 := blk_frozen hr6 0
  have hd1 := blk_cell hr6 1
  have he1 := blk_frozen hr6 1
  have hd2 := blk_cell hr6 2
  have he2 := blk_frozen hr6 2
  simp only [List.getElem?_toArray, List.getElem?_cons_succ, List.getElem?_cons_zero] at hd0 hd1 hd2
  clear hr6 hx6
  replace hp6 := Lib.hid hp6
  go_wp2
  refine bodyPost_ret (v := .agg #[.string NM, .string IN, .string OU]) (by simp [results, Tryz.results111, go_sem, *]) rfl ?_
  rw [hv.out, hs.out]
  refine ⟨rfl, ?_, ?_⟩
  · exact ((hp6.out.setCell (by simpa using hN) _).setCell (by simpa using hN) _).setCell (by simpa using hN) _
  · exact grown_set (grown_set (grown_set hgr6 (Nat.le_refl _) _) (Nat.le_refl _) _) (Nat.le_refl _) _

end Go.Proofs.YtkpgaccgcdoijaaGreatDoor

namespace Go.Proofs.YtkpgaccgcdoijaaGreatDoor
open Go.RowKit

def namedCells (f : NamedD) : List Value := [.string f.name, .int .i64 f.n]
def namedsCells (l : List NamedD) : List Value := l.flatMap namedCells
theorem namedsCells_snoc (l : List NamedD) (t : NamedD) : namedsCells (l ++ [t]) = namedsCells l ++ namedCells t := by simp [namedsCells]
theorem infoNamed : (Tryz.prog.info? 49).map (fun i => (i.zero, i.size, i.bytes)) = some (some (.agg #[(.string ⟨#[]⟩), (.int .i64 0)]), 2, 24) := by kernel_rfl

/-- A store into another block leaves a row owned. -/
theorem own_set {w : World} {base : Nat} {e : TypeId} {size : Nat} {v : Value} {n : Nat} {xs : List Value} (h : w.ownsRow base e size v n xs) {a : Addr} (ha : a.block < base) (u : Value) : (w.setCell a u).ownsRow base e size v n xs := ownsRow_setCell_below h ha u
theorem own_grown {w w' : World} {base : Nat} {e : TypeId} {size : Nat} {v : Value} {n : Nat} {xs : List Value} {g : Nat} (h : w.ownsRow base e size v n xs) (hg : w.grownBy w' (some g)) (hne : g < base) : w'.ownsRow base e size v n xs :=
  h.kept hg (by
    cases hv : v.ownBlock with
    | none => exact .inl rfl
    | some k => right; have := (h.lt k hv).1; simp; omega)

theorem own_slice {w : World} {base n : Nat} {e : TypeId} {size : Nat} {v : Value} {xs : List Value} (h : w.ownsRow base e size v n xs) : ∃ A c, v = .slice A n c := by
  rcases h.2 with ⟨rfl, rfl⟩ | ⟨g, cap, cur, rfl, _⟩
  · exact ⟨none, 0, rfl⟩
  · exact ⟨_, cap, rfl⟩

theorem own_mono {w : World} {b b' n : Nat} {e : TypeId} {size : Nat} {v : Value} {xs : List Value} (h : w.ownsRow b e size v n xs) (hb : b' ≤ b) : w.ownsRow b' e size v n xs := by
  refine ⟨h.1, ?_⟩
  rcases h.2 with h2 | ⟨g, cap, cur, h1, h2, h3⟩
  · exact .inl h2
  · exact .inr ⟨g, cap, cur, h1, by omega, h3⟩
/-- A store into a block of other cells (another size, or another type) leaves a row owned. -/
theorem own_other_set {w : World} {base : Nat} {e : TypeId} {size : Nat} {v : Value} {n : Nat} {xs : List Value} (h : w.ownsRow base e size v n xs) {a : Addr} {k : Nat} (ha : a.block = k) (hne : v.ownBlock ≠ some k) (u : Value) : (w.setCell a u).ownsRow base e size v n xs := by
  subst ha
  refine h.kept (row := some a.block) ⟨rfl, rfl, rfl, by simp [World.setCell], fun j hj hj2 => Below.heap_setCell _ _ _ _ (fun e => hj2 (by rw [e]))⟩ (.inr hne)

theorem grown_below {w w1 w2 : World} {row : Option Nat} {B : Nat} (h : w.grownBy w1 row) (hb : Below B w1 w2) (hB : w.heap.size ≤ B) : w.grownBy w2 row :=
  ⟨hb.os.trans h.os, hb.tape.trans h.tape, hb.output.trans h.output, Nat.le_trans h.size hb.size, fun k hk hne => (hb.block k (by omega)).trans (h.block k hk hne)⟩

/-- What enum hands back. -/
def EnumPost (N g : Nat) (s : St) (w : World) (e : Ending) (w' : World) : Prop :=
  ∃ v, e = .returned (.agg #[.string (enumV s).name, v]) ∧ PS N g (enumS s) w' ∧ w.grownBy w' (some g) ∧ w'.ownsRow (w.heap.size + 1) 49 2 v (enumV s).values.length (namedsCells (enumV s).values)

set_option maxHeartbeats 8000000 in
set_option maxRecDepth 100000 in
theorem enum_calls (N g : Nat) (s : St) (w : World) (h : PS N g s w) (hT : Tabs w) (hN : N ≤ w.heap.size) (hz : s.Small) (hL : s.l.length ≤ 20000) :
    Calls Tryz.prog 110 #[.pointer (some ⟨g, 0, none⟩)] w (EnumPost N g s w) := by
  have hgN := h.1.1
  have hgT := h.1.2
  have hsm : s.m ≤ 40001 := by unfold St.m; split <;> omega
  have hv : enumV s = { name := nameV s, values := (enumR s).2 } := rfl
  have hs : enumS s = (enumR s).1 := rfl
  have hR : enumR s = enumFrom (s.m + 1) (needsS [w_lbrace] (nameS s)) [] := rfl
  have hm1 := nameS_m s
  have hm2 := needsS_m [w_lbrace] (nameS s)
  replace hv := Lib.hid hv; replace hs := Lib.hid hs
  have hp0 := h.alloc hN (.cells #[.string noText, .slice none 0 0] 47)
  have hg0 := World.grownBy_alloc w (.cells #[.string noText, .slice none 0 0] 47) (some g)
  have hr0 := heap_alloc_new w (.cells #[.string noText, .slice none 0 0] 47)
  have hT0 := hT.grown hg0 hgT (by omega)
  have cN := pname_calls N g s _ hp0 hT0 (Nat.le_trans hN hg0.size) hz
  have hz1 := hz.name
  generalize nameV s = NM at hv cN
  generalize enumR s = R at hv hs hR
  generalize s.m = M at hR hm1 hm2 hsm
  generalize nameS s = s1 at hR cN hz1 hm1 hm2
  replace cN := Lib.hid cN; replace hr0 := Lib.hid hr0; replace hg0 := Lib.hid hg0; replace hR := Lib.hid hR
  clear hp0 hT0 h
  go_enter Tryz.func110, Tryz.ntmps110
  go_wp2_with fail
  refine cN.out.mono ?_; rintro e w1 ⟨rfl, hp1, hg1⟩
  have hgr1 := grown_trans hg0.out hg1
  have hr1 := blk_grown hr0.out hg1 (by omega)
  have hrs1 := blk_lt hr1
  clear cN hg1 hr0 hg0
  have hp1' := hp1.alloc (by omega) (.cells #[.string NM, .slice none 0 0] 47)
  have hg1' := grown_trans hgr1 (World.grownBy_alloc w1 (.cells #[.string NM, .slice none 0 0] 47) (some g))
  have hr1' := blk_alloc hr1 (.cells #[.string NM, .slice none 0 0] 47)
  have hx1' := heap_alloc_new w1 (.cells #[.string NM, .slice none 0 0] 47)
  have cE := needs_one N g w_lbrace s1 _ (w1.heap.size + 1) (by simp) hp1' (by omega)
  have hz2 := hz1.needs [w_lbrace]
  generalize needsS [w_lbrace] s1 = s2 at hR cE hz2 hm2
  replace cE := Lib.hid cE; replace hr1' := Lib.hid hr1'; replace hx1' := Lib.hid hx1'; replace hg1' := Lib.hid hg1'
  clear hp1 hgr1 hr1 hp1' hz1
  go_wp2_with fail
  refine cE.out.mono ?_; rintro e w2 ⟨⟨v2, rfl⟩, hp2, hg2⟩
  have hgr2 := grown_trans hg1'.out hg2
  have hr2 := blk_grown hr1'.out hg2 (by omega)
  have hx2 := blk_grown hx1'.out hg2 (by omega)
  have hxs2 := blk_lt hx2
  clear cE hg2 hr1' hx1' hg1'
  replace hp2 := Lib.hid hp2; replace hr2 := Lib.hid hr2; replace hx2 := Lib.hid hx2
  generalize hbx : w1.heap.size = bx at hrs1 hxs2 hx2 ⊢
  replace hbx := Lib.hid hbx
  go_wp2_with fail
  go_loopg [] (M + 1) (fun gk wr => ∃ (st : St) (vs : List NamedD) (v : Value), PS N g st wr ∧ w.grownBy wr (some g) ∧ wr.heap[w.heap.size]? = some (.cells #[.string noText, .slice none 0 0] 47 (0, 0)) ∧ wr.heap[bx]? = some (.cells #[.string NM, v] 47 (0, 0)) ∧
    wr.ownsRow (bx + 1) 49 2 v vs.length (namedsCells vs) ∧ bx + 1 ≤ wr.heap.size ∧ Hid (enumFrom gk st vs = R) ∧ st.m < gk ∧ vs.length + gk ≤ M + 1 ∧ st.Small)
  case atStart => exact ⟨s2, [], _, hp2.out, hgr2, hr2.out, hx2.out, World.ownsRow_nil _ _ _ _, by omega, Lib.hid hR.out.symm, by omega, by simp, hz2⟩
  case round =>
    obtain ⟨st, vs, v, hps, hgr, hr, hx, hown, hbs, hacc, hmk, hvk, hzs⟩ := hrel
    obtain ⟨k1, rfl⟩ : ∃ k, gk = k + 1 := ⟨gk - 1, by omega⟩
    obtain ⟨A0, c0, hq0, hq1, _, _, _⟩ := hps.cell0
    obtain ⟨vA, vc, rfl⟩ := own_slice hown
    clear hq0
    have hgb : g < bx := by omega
    by_cases hbad : st.bad = true
    · rw [hbad] at hq1
      have hfin := Lib.hid (show R = (st, vs) by rw [← hacc.out]; simp only [enumFrom]; rw [if_pos hbad])
      clear hbad hacc
      replace hps := Lib.hid hps
      have hc0 := blk_cell hx 0
      have hf0 := blk_frozen hx 0
      have hc1 := blk_cell hx 1
      have hf1 := blk_frozen hx 1
      simp only [List.getElem?_toArray, List.getElem?_cons_succ, List.getElem?_cons_zero] at hc0 hc1
      have hd0 := blk_cell hr 0
      have he0 := blk_frozen hr 0
      have hd1 := blk_cell hr 1
      have he1 := blk_frozen hr 1
      simp only [List.getElem?_toArray, List.getElem?_cons_succ, List.getElem?_cons_zero] at hd0 hd1
      replace hx := Lib.hid hx; replace hr := Lib.hid hr
      go_wp2
      refine bodyPost_ret (v := .agg #[.string NM, .slice vA vs.length vc]) (by simp [results, Tryz.results110, go_sem, *]) rfl ?_
      unfold EnumPost
      rw [hv.out, hs.out, hfin.out]
      refine ⟨.slice vA vs.length vc, rfl, ?_, ?_, ?_⟩
      · exact (hps.out.setCell (by simpa using hN) _).setCell (by simpa using hN) _
      · exact grown_set (grown_set hgr (Nat.le_refl _) _) (Nat.le_refl _) _
      · exact own_mono (own_set (own_set hown (by simp only; omega) _) (by simp only; omega) _) (by omega)

    · have hbad' : st.bad = false := by simpa using hbad
      rw [hbad'] at hq1
      clear hbad
      have cT := takes_calls N g w_rbrace st wr hps
      have hst : R = if looksB w_rbrace st then (takesS w_rbrace st, vs) else enumFrom k1 (namedS st) (vs ++ [namedV st]) := by
        rw [← hacc.out]; simp only [enumFrom]; rw [if_neg (by simp [hbad'])]
      have htn : looksB w_rbrace st = false → takesS w_rbrace st = st := fun hh => by simp [takesS, hh]
      have hlt := namedS_lt st hbad'
      clear hbad' hacc
      generalize looksB w_rbrace st = q at cT hst htn
      replace cT := Lib.hid cT; replace hst := Lib.hid hst
      have hr' := Lib.hid hr; have hx' := Lib.hid hx
      clear hr hx hps
      cases q
      · have hfin := Lib.hid (show enumFrom k1 (namedS st) (vs ++ [namedV st]) = R by rw [hst.out]; simp)
        have htn' := Lib.hid (htn rfl)
        clear htn hst
        go_wp2_with fail
        refine cT.out.mono ?_; rintro e w3 ⟨rfl, hp3, hg3⟩
        rw [htn'.out] at hp3
        have hgr3 := grown_trans hgr hg3
        have hr3 := blk_grown hr'.out hg3 (by omega)
        have hx3 := blk_grown hx'.out hg3 (by omega)
        have hown3 := own_grown hown hg3 (by omega)
        have hxs3 := blk_lt hx3
        clear cT hg3 hr' hx' hgr hown htn'
        have hn1 : namedV st = { name := nameV st, n := numberV (needsS [w_eq] (nameS st)) } := rfl
        have hn2 : namedS st = needsS [w_semi] (numberS (needsS [w_eq] (nameS st))) := rfl
        replace hn1 := Lib.hid hn1; replace hn2 := Lib.hid hn2; replace hlt := Lib.hid hlt
        have hzn := hzs.named
        have cN := pname_calls N g st w3 hp3 (hT.grown hgr3 hgT (by omega)) (by omega) hzs
        have hz3 := hzs.name
        generalize nameV st = VN at hn1 cN
        generalize nameS st = t3 at hn1 hn2 cN hz3
        replace cN := Lib.hid cN; replace hr3 := Lib.hid hr3; replace hx3 := Lib.hid hx3; replace hzn := Lib.hid hzn
        clear hp3
        go_wp2_with fail
        refine cN.out.mono ?_; rintro e w4 ⟨rfl, hp4, hg4⟩
        have hgr4 := grown_trans hgr3 hg4
        have hr4 := blk_grown hr3.out hg4 (by omega)
        have hx4 := blk_grown hx3.out hg4 (by omega)
        have hown4 := own_grown hown3 hg4 (by omega)
        have hxs4 := blk_lt hx4
        have hnb : (Value.slice vA vs.length vc).ownBlock ≠ some w4.heap.size := fun hh => by have := (hown4.lt _ hh).2; omega
        replace hnb := Lib.hid hnb
        clear cN hg4 hr3 hx3 hown3 hgr3
        have hp4' := hp4.alloc (by omega) (.cells #[.string VN, .int .i64 0] 49)
        have hg4' := grown_trans hgr4 (World.grownBy_alloc w4 (.cells #[.string VN, .int .i64 0] 49) (some g))
        have hr4' := blk_alloc hr4 (.cells #[.string VN, .int .i64 0] 49)
        have hx4' := blk_alloc hx4 (.cells #[.string VN, .int .i64 0] 49)
        have hv4' := heap_alloc_new w4 (.cells #[.string VN, .int .i64 0] 49)
        have hown4' := hown4.alloc (.cells #[.string VN, .int .i64 0] 49)
        have cE := needs_one N g w_eq t3 _ (w4.heap.size + 1) (by simp) hp4' (by omega)
        have hz4 := hz3.needs [w_eq]
        generalize needsS [w_eq] t3 = t4 at hn1 hn2 cE hz4
        replace cE := Lib.hid cE; replace hr4' := Lib.hid hr4'; replace hx4' := Lib.hid hx4'; replace hg4' := Lib.hid hg4'; replace hv4' := Lib.hid hv4'; replace hown4' := Lib.hid hown4'
        clear hp4 hgr4 hr4 hx4 hp4' hz3 hown4
        go_wp2_with fail
        refine cE.out.mono ?_; rintro e w5 ⟨⟨v5, rfl⟩, hp5, hg5⟩
        have hgr5 := grown_trans hg4'.out hg5
        have hr5 := blk_grown hr4'.out hg5 (by omega)
        have hx5 := blk_grown hx4'.out hg5 (by omega)
        have hv5 := blk_grown hv4'.out hg5 (by omega)
        have hown5 := own_grown hown4'.out hg5 (by omega)
        have hvs5 := blk_lt hv5
        have cU := pnumber_calls N g t4 w5 hp5 (by omega) hz4
        have hz5 := hz4.number
        generalize numberV t4 = VI at hn1 cU
        generalize numberS t4 = t5 at hn2 cU hz5
        replace cU := Lib.hid cU; replace hr5 := Lib.hid hr5; replace hx5 := Lib.hid hx5; replace hv5 := Lib.hid hv5; replace hown5 := Lib.hid hown5
        clear cE hg5 hr4' hx4' hg4' hv4' hown4' hp5 hz4
        go_wp2_with fail
        refine cU.out.mono ?_; rintro e w6 ⟨rfl, hp6, hg6⟩
        have hgr6 := grown_trans hgr5 hg6
        have hr6 := blk_grown hr5.out hg6 (by omega)
        have hx6 := blk_grown hx5.out hg6 (by omega)
        have hv6 := blk_grown hv5.out hg6 (by omega)
        have hown6 := own_grown hown5.out hg6 (by omega)
        have hvs6 := blk_lt hv6
        clear cU hg6 hr5 hx5 hv5 hown5 hgr5
        have hc0 := blk_cell hv6 0
        have hf0 := blk_frozen hv6 0
        have hc1 := blk_cell hv6 1
        have hf1 := blk_frozen hv6 1
        simp only [List.getElem?_toArray, List.getElem?_cons_succ, List.getElem?_cons_zero] at hc0 hc1
        have hp6' := hp6.setCell (a := ⟨w4.heap.size, 1, none⟩) (by simp only; omega) (.int .i64 VI)
        have hg6' := grown_set hgr6 (a := ⟨w4.heap.size, 1, none⟩) (by simp only; omega) (.int .i64 VI)
        have hr6' := blk_set hr6 (a := ⟨w4.heap.size, 1, none⟩) (by simp only; omega) (.int .i64 VI)
        have hx6' := blk_set hx6 (a := ⟨w4.heap.size, 1, none⟩) (by simp only; omega) (.int .i64 VI)
        have hv6' := setCell_heap hv6 1 (.int .i64 VI)
        have hown6' := own_other_set hown6 (a := ⟨w4.heap.size, 1, none⟩) rfl hnb.out (.int .i64 VI)
        have cE := needs_one N g w_semi t5 _ w6.heap.size (setCell_size _ _ _) hp6' (by omega)
        generalize needsS [w_semi] t5 = t6 at hn2 cE
        replace cE := Lib.hid cE; replace hr6' := Lib.hid hr6'; replace hx6' := Lib.hid hx6'; replace hg6' := Lib.hid hg6'; replace hv6' := Lib.hid hv6'; replace hown6' := Lib.hid hown6'
        clear hp6 hgr6 hr6 hx6 hv6 hown6 hp6' hz5
        go_wp2_with fail
        refine cE.out.mono ?_; rintro e w7 ⟨⟨v7, rfl⟩, hp7, hg7⟩
        have hgr7 := grown_trans hg6'.out hg7
        have hr7 := blk_grown hr6'.out hg7 (by omega)
        have hx7 := blk_grown hx6'.out hg7 (by omega)
        have hv7 : w7.heap[w4.heap.size]? = some (.cells #[.string VN, .int .i64 VI] 49 (0, 0)) := blk_grown hv6'.out hg7 (by omega)
        have hown7 := own_grown hown6'.out hg7 (by omega)
        have hxs7 := blk_lt hx7
        clear cE hg7 hr6' hx6' hg6' hv6' hown6' hc0 hf0 hc1 hf1
        have hc0 := blk_cell hx7 0
        have hf0 := blk_frozen hx7 0
        have hc1 := blk_cell hx7 1
        have hf1 := blk_frozen hx7 1
        simp only [List.getElem?_toArray, List.getElem?_cons_succ, List.getElem?_cons_zero] at hc0 hc1
        have hd0 := blk_cell hv7 0
        have he0 := blk_frozen hv7 0
        have hd1 := blk_cell hv7 1
        have he1 := blk_frozen hv7 1
        simp only [List.getElem?_toArray, List.getElem?_cons_succ, List.getElem?_cons_zero] at hd0 hd1
        replace hp7 := Lib.hid hp7; replace hr7 := Lib.hid hr7; replace hx7 := Lib.hid hx7; replace hv7 := Lib.hid hv7
        have hbs7 : bx + 1 ≤ w7.heap.size := by omega
        go_wp2_with (at_builtin; refine wpList_push rfl _ _ _ rfl (bx + 1) (bx + 1) 49 _ 2 24 Tryz.underlying45 infoNamed rfl (by decide) (by decide) (.slice vA vs.length vc) vs.length (namedsCells vs) #[.string VN, .int .i64 VI] rfl hown7 rfl rfl (by simp [Value.oneCell']) (by omega) hbs7 (Nat.le_refl _) (Below.refl _ w7) ?_; intro v8 w8 hown8 hg8 hb8 _; obtain ⟨A8, c8, rfl⟩ := own_slice hown8; have hx8 : w8.heap[bx]? = _ := (hb8.block _ (by omega)).trans hx7.out; have hcc := blk_cell hx8 1; have hff := blk_frozen hx8 1; simp only [List.getElem?_toArray, List.getElem?_cons_succ, List.getElem?_cons_zero] at hcc; replace hx8 := Lib.hid hx8)
        have hgr8 := grown_below hgr7 hb8 (by omega)
        go_roundg k1
        case measure => omega
        case rel =>
          refine ⟨namedS st, vs ++ [namedV st], .slice A8 (vs.length + 1) c8, ?_, grown_set hgr8 (by simp only; omega) _, blk_set ((hb8.block _ (by omega)).trans hr7.out) (by simp only; omega) _, setCell_heap hx8.out 1 _, ?_, ?_, hfin, by have := hlt.out; omega, by simp; omega, hzn.out⟩
          · rw [hn2.out]; exact (hp7.out.below (by omega) hb8).setCell (by simp only; omega) _
          · rw [namedsCells_snoc, List.length_append, hn1.out]
            exact own_set hown8 (by simp only; omega) _
          · rw [setCell_size]; exact Nat.le_trans hbs7 hb8.size
      · have hfin := Lib.hid (show R = (takesS w_rbrace st, vs) by rw [hst.out]; simp)
        clear htn hst
        go_wp2_with fail
        refine cT.out.mono ?_; rintro e w3 ⟨rfl, hps, hg3⟩
        replace hgr := grown_trans hgr hg3
        have hr := blk_grown hr'.out hg3 (by omega)
        have hx := blk_grown hx'.out hg3 (by omega)
        replace hown := own_grown hown hg3 (by omega)
        clear cT hg3 hr' hx'
        replace hps := Lib.hid hps
        have hc0 := blk_cell hx 0
        have hf0 := blk_frozen hx 0
        have hc1 := blk_cell hx 1
        have hf1 := blk_frozen hx 1
        simp only [List.getElem?_toArray, List.getElem?_cons_succ, List.getElem?_cons_zero] at hc0 hc1
        have hd0 := blk_cell hr 0
        have he0 := blk_frozen hr 0
        have hd1 := blk_cell hr 1
        have he1 := blk_frozen hr 1
        simp only [List.getElem?_toArray, List.getElem?_cons_succ, List.getElem?_cons_zero] at hd0 hd1
        replace hx := Lib.hid hx; replace hr := Lib.hid hr
        go_wp2
        refine bodyPost_ret (v := .agg #[.string NM, .slice vA vs.length vc]) (by simp [results, Tryz.results110, go_sem, *]) rfl ?_
        unfold EnumPost
        rw [hv.out, hs.out, hfin.out]
        refine ⟨.slice vA vs.length vc, rfl, ?_, ?_, ?_⟩
        · exact (hps.out.setCell (by simpa using hN) _).setCell (by simpa using hN) _
        · exact grown_set (grown_set hgr (Nat.le_refl _) _) (Nat.le_refl _) _
        · exact own_mono (own_set (own_set hown (by simp only; omega) _) (by simp only; omega) _) (by omega)

end Go.Proofs.YtkpgaccgcdoijaaGreatDoor

namespace Go.Proofs.YtkpgaccgcdoijaaGreatDoor
open Go.RowKit

def fieldsCells (l : List FieldD) : List Value := l.flatMap fieldCells
theorem fieldsCells_snoc (l : List FieldD) (t : FieldD) : fieldsCells (l ++ [t]) = fieldsCells l ++ fieldCells t := by simp [fieldsCells]
def intsCells (l : List Int) : List Value := l.map (Value.int .i64)
theorem intsCells_snoc (l : List Int) (t : Int) : intsCells (l ++ [t]) = intsCells l ++ [.int .i64 t] := by simp [intsCells]
theorem infoField : (Tryz.prog.info? 44).map (fun i => (i.zero, i.size, i.bytes)) = some (some (.agg #[(.string ⟨#[]⟩), (.int .i64 0), (.int .i64 0), (.int .i64 0), (.string ⟨#[]⟩)]), 5, 56) := by kernel_rfl
theorem infoInt : (Tryz.prog.info? 3).map (fun i => (i.zero, i.size, i.bytes)) = some (some (.int .i64 0), 1, 8) := by kernel_rfl

/-- An append of one element, at a step of a region that draws its order; the element lies in block nb. -/
theorem step_push {P : Program} {ops : Array Oper} {o : Oper} {a : Act} {K : Act → World → Prop} {Q : Exit → Act → World → Prop} {E : Prop} {w : World} (hgd : o.guard = none) (s x : Operand) (t : TypeId)
    (ho : o.op = .call { callee := .builtin .append, args := #[s, x], argTypes := #[t, t] })
    (base : Nat) (e : TypeId) (z : Value) (size bytes : Nat) (ht : P.underlying t = some (.slice e))
    (hinfo : (P.info? e).map (fun i => (i.zero, i.size, i.bytes)) = some (some z, size, bytes)) (hzs : z.cells.size = size) (hsz : 0 < size) (hby : 0 < bytes)
    (v : Value) (n : Nat) (xs : List Value) (cs : Array Value) (nb : Nat) (hs : a.eval s = v) (hown : w.ownsRow base e size v n xs)
    (hblk : w.heap[nb]? = some (.cells cs e (0, 0))) (hx : a.eval x = .slice (some ⟨nb, 0, none⟩) 1 1) (hl : cs.size = size) (h1 : ∀ u ∈ cs.toList, u.oneCell' = true)
    (hbytes : (n + 1) * bytes ≤ 140737488355328) (hbase : base ≤ w.heap.size)
    (h : ∀ A c w', w'.ownsRow base e size (.slice A (n + 1) c) (n + 1) (xs ++ cs.toList) → Below base w w' → w.grownBy w' v.ownBlock → K (a.put o.dst (.slice A (n + 1) c)) w') :
    if Region.wanted o (yielded ops a.tmps) = true then Oper.wp P o a w K Q else E := by
  obtain ⟨i0, hi, hzz⟩ := Option.map_eq_some_iff.1 hinfo
  simp only [Prod.mk.injEq] at hzz
  obtain ⟨hz0, hz1, hz2⟩ := hzz
  have hlen : n + 1 ≤ 140737488355328 := Nat.le_trans (Nat.le_mul_of_pos_right _ hby) hbytes
  exact step_append_lies (w := w) hgd s x t ho base e i0 z size bytes ht hi hz0 hz1 hz2 hzs hsz v n xs hs hown ⟨nb, 0, none⟩ 1 1 cs.toList hx (by simp [hl]) (World.news_of_block hblk) h1
    (by omega) (by simp only [maxLen]; omega) hbytes hbase _ rfl (fun g cap w' h2 h3 _ _ => h _ _ _ h2 ((Below.refl base w).grown h3 hbase (fun k hk => (hown.lt k hk).1)) h3)

theorem grown_drew {w w' : World} {row : Option Nat} (h : w.grownBy w' row) : w.grownBy w'.drew row := ⟨h.os, h.tape, h.output, h.size, h.block⟩

theorem grown_undrew {w w' : World} {row : Option Nat} (h : w.drew.grownBy w' row) : w.grownBy w' row := ⟨h.os, h.tape, h.output, h.size, h.block⟩

theorem grown_frozen {w w' : World} {g b i : Nat} (h : w.grownBy w' (some g)) (hb : b < w.heap.size) (hne : b ≠ g) : w'.frozen? ⟨b, i, none⟩ = w.frozen? ⟨b, i, none⟩ := World.frozen?_of_block (w := w) (h.block b hb (by simpa using hne))

/-- A call of a Go function, at a step of a region that draws its order. -/
theorem step_call {P : Program} {ops : Array Oper} {o : Oper} {a : Act} {K : Act → World → Prop} {Q : Exit → Act → World → Prop} {E : Prop} {w : World} (hgd : o.guard = none) (f : FuncId) (x : Operand) (ts : Array TypeId)
    (ho : o.op = .call { callee := .value (.func f), args := #[x], argTypes := ts }) (hf : ∀ args w, (callFunc f args).run P w = .ok (.enter f args) w)
    (u : Value) (hu : a.eval x = u) {R : Ending → World → Prop} (hc : Calls P f #[u] w R) (h : ∀ e w', R e w' → ∃ v, e = .returned v ∧ K (a.put o.dst v) w') :
    if Region.wanted o (yielded ops a.tmps) = true then Oper.wp P o a w K Q else E := by
  have hw : Region.wanted o (yielded ops a.tmps) = true := by simp [Region.wanted, hgd]
  rw [if_pos hw]
  have hr : (execOp a.eval o).run P w = .ok (.enter f #[u]) w := by
    have he : a.eval (.func f) = .func (.func f) #[] #[] := rfl
    simp [execOp, ho, resolve, hu, hf, he, Deferred.ofValue, invoke]
  unfold Oper.wp
  rw [hr, Oper.upon_enter]
  refine hc.mono fun e w' he => ?_
  obtain ⟨v, rfl, hk⟩ := h e w' he
  exact hk

def MessagePost (N g : Nat) (s : St) (w : World) (e : Ending) (w' : World) : Prop :=
  ∃ vf vr, e = .returned (.agg #[.string (messageV s).name, vf, vr]) ∧ PS N g (messageS s) w' ∧ w.grownBy w' (some g) ∧ w'.ownsRow (w.heap.size + 1) 44 5 vf (messageV s).fields.length (fieldsCells (messageV s).fields) ∧
    w'.ownsRow (w.heap.size + 1) 3 1 vr (messageV s).reserved.length (intsCells (messageV s).reserved)

theorem own_type_ne {w : World} {b b' : Nat} {e e' : TypeId} {s s' n n' : Nat} {v v' : Value} {xs xs' : List Value} (h : w.ownsRow b e s v n xs) (h' : w.ownsRow b' e' s' v' n' xs') (hne : e ≠ e') : v.ownBlock = none ∨ v.ownBlock ≠ v'.ownBlock := by
  rcases h.2 with ⟨rfl, _⟩ | ⟨g, cap, cur, rfl, _, hh, _⟩
  · exact .inl rfl
  · refine .inr fun hk => ?_
    rcases h'.2 with ⟨rfl, _⟩ | ⟨g', cap', cur', rfl, _, hh', _⟩
    · simp [Value.ownBlock] at hk
    · have : g = g' := by simpa [Value.ownBlock] using hk
      subst this
      rw [hh] at hh'
      injection hh' with hh'
      injection hh' with _ ht
      exact hne ht

set_option maxHeartbeats 8000000 in
set_option maxRecDepth 100000 in
theorem message_calls (N g : Nat) (s : St) (w : World) (h : PS N g s w) (hT : Tabs w) (hN : N ≤ w.heap.size) (hz : s.Small) (hL : s.l.length ≤ 20000) :
    Calls Tryz.prog 109 #[.pointer (some ⟨g, 0, none⟩)] w (MessagePost N g s w) := by
  have hgN := h.1.1
  have hgT := h.1.2
  have hsm : s.m ≤ 40001 := by unfold St.m; split <;> omega
  have hv : messageV s = { name := nameV s, fields := (messageR s).2.1, reserved := (messageR s).2.2 } := rfl
  have hs : messageS s = (messageR s).1 := rfl
  have hR : messageR s = messageFrom (s.m + 1) (needsS [w_lbrace] (nameS s)) [] [] := rfl
  have hm1 := nameS_m s
  have hm2 := needsS_m [w_lbrace] (nameS s)
  replace hv := Lib.hid hv; replace hs := Lib.hid hs
  have hp0 := h.alloc hN (.cells #[.string noText, .slice none 0 0, .slice none 0 0] 40)
  have hg0 := World.grownBy_alloc w (.cells #[.string noText, .slice none 0 0, .slice none 0 0] 40) (some g)
  have hr0 := heap_alloc_new w (.cells #[.string noText, .slice none 0 0, .slice none 0 0] 40)
  have hT0 := hT.grown hg0 hgT (by omega)
  have cN := pname_calls N g s _ hp0 hT0 (Nat.le_trans hN hg0.size) hz
  have hz1 := hz.name
  generalize nameV s = NM at hv cN
  generalize messageR s = R at hv hs hR
  generalize s.m = M at hR hm1 hm2 hsm
  generalize nameS s = s1 at hR cN hz1 hm1 hm2
  replace cN := Lib.hid cN; replace hr0 := Lib.hid hr0; replace hg0 := Lib.hid hg0; replace hR := Lib.hid hR
  clear hp0 hT0 h
  go_enter Tryz.func109, Tryz.ntmps109
  go_wp2_with fail
  refine cN.out.mono ?_; rintro e w1 ⟨rfl, hp1, hg1⟩
  have hgr1 := grown_trans hg0.out hg1
  have hr1 := blk_grown hr0.out hg1 (by omega)
  have hrs1 := blk_lt hr1
  clear cN hg1 hr0 hg0
  have hp1' := hp1.alloc (by omega) (.cells #[.string NM, .slice none 0 0, .slice none 0 0] 40)
  have hg1' := grown_trans hgr1 (World.grownBy_alloc w1 (.cells #[.string NM, .slice none 0 0, .slice none 0 0] 40) (some g))
  have hr1' := blk_alloc hr1 (.cells #[.string NM, .slice none 0 0, .slice none 0 0] 40)
  have hx1' := heap_alloc_new w1 (.cells #[.string NM, .slice none 0 0, .slice none 0 0] 40)
  have cE := needs_one N g w_lbrace s1 _ (w1.heap.size + 1) (by simp) hp1' (by omega)
  have hz2 := hz1.needs [w_lbrace]
  generalize needsS [w_lbrace] s1 = s2 at hR cE hz2 hm2
  replace cE := Lib.hid cE; replace hr1' := Lib.hid hr1'; replace hx1' := Lib.hid hx1'; replace hg1' := Lib.hid hg1'
  clear hp1 hgr1 hr1 hp1' hz1
  go_wp2_with fail
  refine cE.out.mono ?_; rintro e w2 ⟨⟨v2, rfl⟩, hp2, hg2⟩
  have hgr2 := grown_trans hg1'.out hg2
  have hr2 := blk_grown hr1'.out hg2 (by omega)
  have hx2 := blk_grown hx1'.out hg2 (by omega)
  have hxs2 := blk_lt hx2
  clear cE hg2 hr1' hx1' hg1'
  replace hp2 := Lib.hid hp2; replace hr2 := Lib.hid hr2; replace hx2 := Lib.hid hx2
  generalize hbx : w1.heap.size = bx at hrs1 hxs2 hx2 ⊢
  replace hbx := Lib.hid hbx
  go_wp2_with fail
  go_loopg [] (M + 1) (fun gk wr => ∃ (st : St) (fs : List FieldD) (rs : List Int) (vf vr : Value), PS N g st wr ∧ w.grownBy wr (some g) ∧ wr.heap[w.heap.size]? = some (.cells #[.string noText, .slice none 0 0, .slice none 0 0] 40 (0, 0)) ∧ wr.heap[bx]? = some (.cells #[.string NM, vf, vr] 40 (0, 0)) ∧
    wr.ownsRow (bx + 1) 44 5 vf fs.length (fieldsCells fs) ∧ wr.ownsRow (bx + 1) 3 1 vr rs.length (intsCells rs) ∧ bx + 1 ≤ wr.heap.size ∧ Hid (messageFrom gk st fs rs = R) ∧ st.m < gk ∧ fs.length + gk ≤ M + 1 ∧ rs.length + st.m ≤ M ∧ st.Small)
  case atStart => exact ⟨s2, [], [], _, _, hp2.out, hgr2, hr2.out, hx2.out, World.ownsRow_nil _ _ _ _, World.ownsRow_nil _ _ _ _, by omega, Lib.hid hR.out.symm, by omega, by simp, by simp; omega, hz2⟩
  case round =>
    obtain ⟨st, fs, rs, vf, vr, hps, hgr, hr, hx, hof, hor, hbs, hacc, hmk, hfk, hrk, hzs⟩ := hrel
    obtain ⟨k1, rfl⟩ : ∃ k, gk = k + 1 := ⟨gk - 1, by omega⟩
    obtain ⟨A0, c0, hq0, hq1, _, _, _⟩ := hps.cell0
    obtain ⟨fA, fc, rfl⟩ := own_slice hof
    obtain ⟨rA, rc, rfl⟩ := own_slice hor
    clear hq0
    have hgb : g < bx := by omega
    by_cases hbad : st.bad = true
    · rw [hbad] at hq1
      have hfin := Lib.hid (show R = (st, fs, rs) by rw [← hacc.out]; simp only [messageFrom]; rw [if_pos hbad])
      clear hbad hacc
      replace hps := Lib.hid hps
      have hc0 := blk_cell hx 0
      have hf0 := blk_frozen hx 0
      have hc1 := blk_cell hx 1
      have hf1 := blk_frozen hx 1
      have hc2 := blk_cell hx 2
      have hf2 := blk_frozen hx 2
      simp only [List.getElem?_toArray, List.getElem?_cons_succ, List.getElem?_cons_zero] at hc0 hc1 hc2
      have hd0 := blk_cell hr 0
      have he0 := blk_frozen hr 0
      have hd1 := blk_cell hr 1
      have he1 := blk_frozen hr 1
      have hd2 := blk_cell hr 2
      have he2 := blk_frozen hr 2
      simp only [List.getElem?_toArray, List.getElem?_cons_succ, List.getElem?_cons_zero] at hd0 hd1 hd2
      replace hx := Lib.hid hx; replace hr := Lib.hid hr
      go_wp2
      refine bodyPost_ret (v := .agg #[.string NM, .slice fA fs.length fc, .slice rA rs.length rc]) (by simp [results, Tryz.results109, go_sem, *]) rfl ?_
      unfold MessagePost
      rw [hv.out, hs.out, hfin.out]
      refine ⟨.slice fA fs.length fc, .slice rA rs.length rc, rfl, ?_, ?_, ?_, ?_⟩
      · exact ((hps.out.setCell (by simpa using hN) _).setCell (by simpa using hN) _).setCell (by simpa using hN) _
      · exact grown_set (grown_set (grown_set hgr (Nat.le_refl _) _) (Nat.le_refl _) _) (Nat.le_refl _) _
      · exact own_mono (own_set (own_set (own_set hof (by simp only; omega) _) (by simp only; omega) _) (by simp only; omega) _) (by omega)
      · exact own_mono (own_set (own_set (own_set hor (by simp only; omega) _) (by simp only; omega) _) (by simp only; omega) _) (by omega)

    · have hbad' : st.bad = false := by simpa using hbad
      rw [hbad'] at hq1
      clear hbad
      have cT := takes_calls N g w_rbrace st wr hps
      have cR := fun W hW => takes_calls N g w_res st W hW
      have hst : R = if looksB w_rbrace st then (takesS w_rbrace st, fs, rs) else if looksB w_res st then
          messageFrom k1 (needsS [w_semi] (commaFrom k1 (numberS (takesS w_res st)) (rs ++ [numberV (takesS w_res st)])).1) fs (commaFrom k1 (numberS (takesS w_res st)) (rs ++ [numberV (takesS w_res st)])).2
          else messageFrom k1 (fieldS st) (fs ++ [fieldV st]) rs := by
        rw [← hacc.out]; simp only [messageFrom]; rw [if_neg (by simp [hbad'])]
      have htn : looksB w_rbrace st = false → takesS w_rbrace st = st := fun hh => by simp [takesS, hh]
      have htr : looksB w_res st = false → takesS w_res st = st := fun hh => by simp [takesS, hh]
      have hlr : looksB w_res st = true → (takesS w_res st).m < st.m := takesS_lt _ _
      have hlt := fieldS_lt st hbad'
      clear hbad' hacc
      generalize looksB w_rbrace st = q at cT hst htn
      generalize looksB w_res st = q2 at cR hst htr hlr
      replace cT := Lib.hid cT; replace hst := Lib.hid hst; replace cR := Lib.hid cR
      have hr' := Lib.hid hr; have hx' := Lib.hid hx
      clear hr hx hps
      cases q
      · have htn' := Lib.hid (htn rfl)
        clear htn
        go_wp2_with fail
        refine cT.out.mono ?_; rintro e w3 ⟨rfl, hp3, hg3⟩
        rw [htn'.out] at hp3
        have hgr3 := grown_trans hgr hg3
        have hr3 := blk_grown hr'.out hg3 (by omega)
        have hx3 := blk_grown hx'.out hg3 (by omega)
        have hof3 := own_grown hof hg3 (by omega)
        have hor3 := own_grown hor hg3 (by omega)
        have hxs3 := blk_lt hx3
        clear cT hg3 hr' hx' hgr hof hor htn'
        have cR3 := cR.out _ hp3
        clear cR
        replace cR3 := Lib.hid cR3; replace hr3 := Lib.hid hr3; replace hx3 := Lib.hid hx3
        cases q2
        · have hfin := Lib.hid (show messageFrom k1 (fieldS st) (fs ++ [fieldV st]) rs = R by rw [hst.out]; simp)
          have htr' := Lib.hid (htr rfl)
          clear htr hst hlr hp3
          go_wp2_with fail
          refine cR3.out.mono ?_; rintro e w4 ⟨rfl, hp4, hg4⟩
          rw [htr'.out] at hp4
          have hgr4 := grown_trans hgr3 hg4
          have hr4 := blk_grown hr3.out hg4 (by omega)
          have hx4 := blk_grown hx3.out hg4 (by omega)
          have hof4 := own_grown hof3 hg4 (by omega)
          have hor4 := own_grown hor3 hg4 (by omega)
          have hxs4 := blk_lt hx4
          clear cR3 hg4 hr3 hx3 hgr3 hof3 hor3 htr'
          have hc0 := blk_cell hx4 0
          have hf0 := blk_frozen hx4 0
          have hc1 := blk_cell hx4 1
          have hf1 := blk_frozen hx4 1
          have hc2 := blk_cell hx4 2
          have hf2 := blk_frozen hx4 2
          simp only [List.getElem?_toArray, List.getElem?_cons_succ, List.getElem?_cons_zero] at hc0 hc1 hc2
          have hx4' := Lib.hid hx4; replace hr4 := Lib.hid hr4
          have hfv := Lib.hid (show fieldCells (fieldV st) = [.string (fieldV st).name, .int .i64 (fieldV st).tag, .int .i64 (fieldV st).label, .int .i64 (fieldV st).kind, .string (fieldV st).tname] from rfl)
          have cF := field_calls N g st w4.drew hp4.drew (hT.grown (grown_drew hgr4) hgT (by omega)) (by simp; omega) hzs
          have hzf := hzs.field
          unfold fieldVal at cF
          generalize hq : fieldV st = FV at cF hfv hfin
          generalize hq2 : fieldS st = t1 at cF hfin hzf hlt
          replace cF := Lib.hid cF; replace hq := Lib.hid hq; replace hq2 := Lib.hid hq2
          clear hx4 hp4
          go_wp2_with fail
          go_region_law
            (first
              | (refine step_call (by rfl) 145 _ _ (by rfl) (fun _ _ => by kernel_rfl) (.pointer (some ⟨g, 0, none⟩)) (by rfl) cF.out ?_
                 rintro e w5 ⟨rfl, hp5, hg5⟩
                 refine ⟨_, rfl, ?_⟩
                 have hx5 := Lib.hid (blk_grown hx4'.out (grown_undrew hg5) (by omega))
                 have hc5 := blk_cell hx5.out 1
                 simp only [List.getElem?_toArray, List.getElem?_cons_succ, List.getElem?_cons_zero] at hc5
                 have ha5 : ∀ o, (w5.alloc o).cell? ⟨bx, 1, none⟩ = some (.slice fA fs.length fc) := fun o => blk_cell (blk_alloc hx5.out o) 1)
              | (refine step_push (by rfl) _ _ _ (by rfl) (bx + 1) 44 _ 5 56 Tryz.underlying37 infoField rfl (by decide) (by decide) (.slice fA fs.length fc) fs.length (fieldsCells fs) #[.string FV.name, .int .i64 FV.tag, .int .i64 FV.label, .int .i64 FV.kind, .string FV.tname] w5.heap.size (by rfl)
                  (((own_grown (g := g) (w := w4) hof4 (grown_undrew hg5) (by omega)).alloc _).drew) (heap_alloc_new w5 _) (by rfl) rfl (by simp [Value.oneCell']) (by omega) (by have := hg5.size; simp at this; simp; omega) ?_
                 intro A8 c8 w8 hown8 hb8 hg8
                 have hx8 : w8.heap[bx]? = some (.cells #[.string NM, .slice fA fs.length fc, .slice rA rs.length rc] 40 (0, 0)) := (hb8.block bx (by omega)).trans (blk_alloc hx5.out _)
                 have hff := blk_frozen hx8 1
                 have hcc := blk_cell hx8 1
                 simp only [List.getElem?_toArray, List.getElem?_cons_succ, List.getElem?_cons_zero] at hcc
                 replace hx8 := Lib.hid hx8)
              | fail)
          all_goals
            have hs5 := hg5.size
            have hs4 : bx < w5.heap.size := blk_lt hx5.out
            have hgr5 := grown_trans hgr4 (grown_undrew hg5)
            have hr5 := blk_grown hr4.out (grown_undrew hg5) (by omega)
            have hor5 := own_grown hor4 (grown_undrew hg5) (by omega)
            have hof5 := own_grown hof4 (grown_undrew hg5) (by omega)
            have hor8 := World.ownsRow.kept ((hor5.alloc (.cells #[.string FV.name, .int .i64 FV.tag, .int .i64 FV.label, .int .i64 FV.kind, .string FV.tname] 44))) hg8 (by
              rcases own_type_ne hor5 hof5 (by decide) with h1 | h1
              · exact .inl h1
              · exact .inr h1)
            have hp8 := (((hp5.alloc (by omega) (.cells #[.string FV.name, .int .i64 FV.tag, .int .i64 FV.label, .int .i64 FV.kind, .string FV.tname] 44))).below (by omega) hb8)
            have hr8 := (hb8.block w.heap.size (by omega)).trans (blk_alloc hr5 (.cells #[.string FV.name, .int .i64 FV.tag, .int .i64 FV.label, .int .i64 FV.kind, .string FV.tname] 44))
            have hgr8 := grown_below ((grown_trans hgr5 (World.grownBy_alloc w5 (.cells #[.string FV.name, .int .i64 FV.tag, .int .i64 FV.label, .int .i64 FV.kind, .string FV.tname] 44) (some g)))) hb8 (by omega)
            have hs8 := hb8.size
            clear ha5 hcc hff hc5
            replace hr8 := Lib.hid hr8; replace hp8 := Lib.hid hp8
            go_wp2
            go_roundg k1
            case measure => omega
            case rel =>
              refine ⟨t1, fs ++ [FV], rs, .slice A8 (fs.length + 1) c8, .slice rA rs.length rc, hp8.out.setCell (by simp only; omega) _, grown_set hgr8 (by simp only; omega) _, blk_set hr8.out (by simp only; omega) _, setCell_heap hx8.out 1 _, ?_, own_set hor8 (by simp only; omega) _, ?_, hfin, by omega, by simp; omega, by omega, hzf⟩
              · rw [fieldsCells_snoc, List.length_append, hfv.out]
                exact own_set hown8 (by simp only; omega) _
              · rw [setCell_size]; simp at hs8; omega

        · have hfin := Lib.hid (show messageFrom k1 (needsS [w_semi] (commaFrom k1 (numberS (takesS w_res st)) (rs ++ [numberV (takesS w_res st)])).1) fs (commaFrom k1 (numberS (takesS w_res st)) (rs ++ [numberV (takesS w_res st)])).2 = R by rw [hst.out]; simp)
          have hlr' := hlr rfl
          clear htr hst hp3 hlr hlt
          have htt := takesS_lt w_res st
          generalize hqT : takesS w_res st = tS at cR3 hlr'
          have hz1 : tS.Small := by rw [← hqT]; exact hzs.takes _
          replace hqT := Lib.hid hqT
          clear htt
          go_wp2_with fail
          refine cR3.out.mono ?_; rintro e w4 ⟨rfl, hpw4, hg4⟩
          have hgrw4 := grown_trans hgr3 hg4
          have hrw4 := blk_grown hr3.out hg4 (by omega)
          have hxw4 := blk_grown hx3.out hg4 (by omega)
          have hofw4 := own_grown hof3 hg4 (by omega)
          have horw4 := own_grown hor3 hg4 (by omega)
          replace hpw4 := Lib.hid hpw4; replace hrw4 := Lib.hid hrw4; replace hxw4 := Lib.hid hxw4
          clear cR3 hg4 hr3 hx3 hgr3 hof3 hor3
          have hcl1 := blk_cell hxw4.out 2
          have hfl1 := blk_frozen hxw4.out 2
          simp only [List.getElem?_toArray, List.getElem?_cons_succ, List.getElem?_cons_zero] at hcl1
          have hxs1 := blk_lt hxw4.out
          have cU := pnumber_calls N g tS w4.drew hpw4.out.drew (by simp; omega) hz1
          have hzn1 := hz1.number
          have hmn1 := numberS_m tS
          generalize hqn1 : numberV tS = n1 at cU
          generalize hqs1 : numberS tS = u1 at cU hzn1 hmn1
          replace cU := Lib.hid cU; replace hqn1 := Lib.hid hqn1; replace hqs1 := Lib.hid hqs1
          go_wp2_with fail
          go_region_law
            (first
              | (refine step_call (by rfl) 144 _ _ (by rfl) (fun _ _ => by kernel_rfl) (.pointer (some ⟨g, 0, none⟩)) (by rfl) cU.out ?_
                 rintro e wn ⟨rfl, hpn, hgn⟩
                 refine ⟨_, rfl, ?_⟩
                 have hxn := Lib.hid (blk_grown hxw4.out (grown_undrew hgn) (by omega))
                 have hcn := blk_cell hxn.out 2
                 simp only [List.getElem?_toArray, List.getElem?_cons_succ, List.getElem?_cons_zero] at hcn
                 have han : ∀ o, (wn.alloc o).cell? ⟨bx, 2, none⟩ = some (.slice rA rs.length rc) := fun o => blk_cell (blk_alloc hxn.out o) 2)
              | (refine step_push (by rfl) _ _ _ (by rfl) (bx + 1) 3 _ 1 8 Tryz.underlying38 infoInt rfl (by decide) (by decide) (.slice rA rs.length rc) rs.length (intsCells rs) #[.int .i64 n1] wn.heap.size (by rfl)
                  (((own_grown (g := g) (w := w4) horw4 (grown_undrew hgn) (by omega)).alloc _)) (heap_alloc_new wn _) (by rfl) rfl (by simp [Value.oneCell']) (by omega) (by have := hgn.size; simp at this; simp; omega) ?_
                 intro Ap cp wp hownp hbp hgp
                 have hxp : wp.heap[bx]? = some (.cells #[.string NM, .slice fA fs.length fc, .slice rA rs.length rc] 40 (0, 0)) := (hbp.block bx (by omega)).trans (blk_alloc hxn.out _)
                 have hfp := blk_frozen hxp 2
                 have hcp := blk_cell hxp 2
                 simp only [List.getElem?_toArray, List.getElem?_cons_succ, List.getElem?_cons_zero] at hcp
                 replace hxp := Lib.hid hxp)
              | fail)
          all_goals
            have hsn := hgn.size
            have hsx : bx < wn.heap.size := blk_lt hxn.out
            have hgrn := grown_trans hgrw4 (grown_undrew hgn)
            have hrn := blk_grown hrw4.out (grown_undrew hgn) (by omega)
            have horn := own_grown horw4 (grown_undrew hgn) (by omega)
            have hofn := own_grown hofw4 (grown_undrew hgn) (by omega)
            have hofp := World.ownsRow.kept (hofn.alloc (.cells #[.int .i64 n1] 3)) hgp (by
              rcases own_type_ne hofn horn (by decide) with h1 | h1
              · exact .inl h1
              · exact .inr h1)
            have hpp := ((hpn.alloc (by omega) (.cells #[.int .i64 n1] 3)).below (by omega) hbp).setCell (a := ⟨bx, 2, none⟩) (by simp only; omega) (.slice Ap (rs.length + 1) cp)
            have hrp := blk_set ((hbp.block w.heap.size (by omega)).trans (blk_alloc hrn (.cells #[.int .i64 n1] 3))) (a := ⟨bx, 2, none⟩) (by simp only; omega) (.slice Ap (rs.length + 1) cp)
            have hgrp := grown_set (grown_below (grown_trans hgrn (World.grownBy_alloc wn (.cells #[.int .i64 n1] 3) (some g))) hbp (by omega)) (a := ⟨bx, 2, none⟩) (by simp only; omega) (.slice Ap (rs.length + 1) cp)
            have hxq := setCell_heap hxp.out 2 (.slice Ap (rs.length + 1) cp)
            have hofq := own_set hofp (a := ⟨bx, 2, none⟩) (by simp only; omega) (.slice Ap (rs.length + 1) cp)
            have horq := own_set hownp (a := ⟨bx, 2, none⟩) (by simp only; omega) (.slice Ap (rs.length + 1) cp)
            have hsp : bx + 1 ≤ (wp.setCell ⟨bx, 2, none⟩ (.slice Ap (rs.length + 1) cp)).heap.size := by rw [setCell_size]; have := hbp.size; simp at this; omega
            clear han hcp hfp hcn hcl1 hfl1 hxn hxp hofp hrn horn hofn hgrn
            replace hrp := Lib.hid hrp; replace hpp := Lib.hid hpp; replace hxq := Lib.hid hxq; replace hofq := Lib.hid hofq; replace horq := Lib.hid horq; replace hgrp := Lib.hid hgrp; replace hsp := Lib.hid hsp
            go_wp2_with fail
            go_loopg [] k1 (fun gk2 wq => ∃ (sti : St) (rsi : List Int) (vri : Value), PS N g sti wq ∧ w.grownBy wq (some g) ∧ wq.heap[w.heap.size]? = some (.cells #[.string noText, .slice none 0 0, .slice none 0 0] 40 (0, 0)) ∧ wq.heap[bx]? = some (.cells #[.string NM, .slice fA fs.length fc, vri] 40 (0, 0)) ∧
              wq.ownsRow (bx + 1) 44 5 (.slice fA fs.length fc) fs.length (fieldsCells fs) ∧ wq.ownsRow (bx + 1) 3 1 vri rsi.length (intsCells rsi) ∧ bx + 1 ≤ wq.heap.size ∧ Hid (commaFrom gk2 sti rsi = commaFrom k1 (numberS (takesS w_res st)) (rs ++ [numberV (takesS w_res st)])) ∧ (sti.m < gk2 ∧ gk2 ≤ k1) ∧ rsi.length + sti.m ≤ M ∧ sti.Small)
            case atStart =>
              refine ⟨u1, rs ++ [n1], .slice Ap (rs.length + 1) cp, hpp.out, hgrp.out, hrp.out, hxq.out, hofq.out, ?_, hsp.out, Lib.hid ?_, ⟨by omega, Nat.le_refl _⟩, by simp; omega, hzn1⟩
              · rw [intsCells_snoc, List.length_append]; exact horq.out
              · rw [← hqn1.out, ← hqs1.out, ← hqT.out]
            case round =>
              obtain ⟨sti, rsi, vri, hpsi, hgri, hri, hxi, hofi, hori, hbsi, hacci, ⟨hmi, hki⟩, hrki, hzi⟩ := hrel
              obtain ⟨k2, rfl⟩ : ∃ k, gk = k + 1 := ⟨gk - 1, by omega⟩
              obtain ⟨iA, ic, rfl⟩ := own_slice hori
              have cT2 := takes_calls N g w_comma sti wr hpsi
              have hst2 : commaFrom k1 (numberS (takesS w_res st)) (rs ++ [numberV (takesS w_res st)]) = if looksB w_comma sti then commaFrom k2 (numberS (takesS w_comma sti)) (rsi ++ [numberV (takesS w_comma sti)]) else (sti, rsi) := by
                rw [← hacci.out]; rfl
              have hlt2 : looksB w_comma sti = true → (takesS w_comma sti).m < sti.m := takesS_lt _ _
              have htn2 : looksB w_comma sti = false → takesS w_comma sti = sti := fun hh => by simp [takesS, hh]
              have hz2 : (takesS w_comma sti).Small := hzi.takes _
              clear hacci
              generalize looksB w_comma sti = q at cT2 hst2 hlt2 htn2
              generalize takesS w_comma sti = tC at cT2 hst2 hlt2 htn2 hz2
              replace cT2 := Lib.hid cT2
              have hri' := Lib.hid hri; have hxi' := Lib.hid hxi
              clear hri hxi hpsi
              cases q
              · have hC := Lib.hid hst2
                have htq := htn2 rfl
                subst htq
                clear hst2 hlt2
                go_wp2_with fail
                refine cT2.out.mono ?_; rintro e w6 ⟨rfl, hp6, hg6⟩
                have hgr6 := grown_trans hgri hg6
                have hr6 := blk_grown hri'.out hg6 (by omega)
                have hx6 := blk_grown hxi'.out hg6 (by omega)
                have hof6 := own_grown hofi hg6 (by omega)
                have hor6 := own_grown hori hg6 (by omega)
                have hs6 := blk_lt hx6
                have cE := needs_one N g w_semi tC w6 w6.heap.size rfl hp6 (by omega)
                have hz7 := hz2.needs [w_semi]
                have hm7 := needsS_m [w_semi] tC
                generalize hq7 : needsS [w_semi] tC = s7 at cE hz7 hm7
                replace cE := Lib.hid cE; replace hr6 := Lib.hid hr6; replace hx6 := Lib.hid hx6; replace hq7 := Lib.hid hq7
                clear cT2 hg6 hri' hxi' hgri hofi hori hp6
                go_wp2_with fail
                refine cE.out.mono ?_; rintro e w7 ⟨⟨v7, rfl⟩, hp7, hg7⟩
                have hgr7 := grown_trans hgr6 hg7
                have hr7 := blk_grown hr6.out hg7 (by omega)
                have hx7 := blk_grown hx6.out hg7 (by omega)
                have hof7 := own_grown hof6 hg7 (by omega)
                have hor7 := own_grown hor6 hg7 (by omega)
                have hs7 := blk_lt hx7
                have hfin7 := Lib.hid (show messageFrom k1 s7 fs rsi = R by rw [← hfin.out, hC.out]; simp only [Bool.false_eq_true, if_false]; rw [hq7.out])
                replace hr7 := Lib.hid hr7; replace hx7 := Lib.hid hx7; replace hp7 := Lib.hid hp7
                clear cE hg7 hr6 hx6
                go_wp2
                go_roundg k1
                case measure => omega
                case rel => exact ⟨s7, fs, rsi, .slice fA fs.length fc, .slice iA rsi.length ic, hp7.out, hgr7, hr7.out, hx7.out, hof7, hor7, by omega, hfin7, by omega, by omega, by omega, hz7⟩
              · have hst2' := Lib.hid (show commaFrom k2 (numberS tC) (rsi ++ [numberV tC]) = commaFrom k1 (numberS (takesS w_res st)) (rs ++ [numberV (takesS w_res st)]) by rw [hst2]; simp)
                have hlt2' := hlt2 rfl
                clear hst2 htn2 hlt2
                have hst2 := hst2'
                clear hst2'
                go_wp2_with fail
                refine cT2.out.mono ?_; rintro e w6 ⟨rfl, hpw6, hg6⟩
                have hgrw6 := grown_trans hgri hg6
                have hrw6 := blk_grown hri'.out hg6 (by omega)
                have hxw6 := blk_grown hxi'.out hg6 (by omega)
                have hofw6 := own_grown hofi hg6 (by omega)
                have horw6 := own_grown hori hg6 (by omega)
                replace hpw6 := Lib.hid hpw6; replace hrw6 := Lib.hid hrw6; replace hxw6 := Lib.hid hxw6
                clear cT2 hg6 hri' hxi' hgri hofi hori
                have hcl2 := blk_cell hxw6.out 2
                have hfl2 := blk_frozen hxw6.out 2
                simp only [List.getElem?_toArray, List.getElem?_cons_succ, List.getElem?_cons_zero] at hcl2
                have hxs2 := blk_lt hxw6.out
                have cU := pnumber_calls N g tC w6.drew hpw6.out.drew (by simp; omega) hz2
                have hzn2 := hz2.number
                have hmn2 := numberS_m tC
                generalize hqn2 : numberV tC = n2 at cU
                generalize hqs2 : numberS tC = u2 at cU hzn2 hmn2
                replace cU := Lib.hid cU; replace hqn2 := Lib.hid hqn2; replace hqs2 := Lib.hid hqs2
                go_wp2_with fail
                go_region_law
                  (first
                    | (refine step_call (by rfl) 144 _ _ (by rfl) (fun _ _ => by kernel_rfl) (.pointer (some ⟨g, 0, none⟩)) (by rfl) cU.out ?_
                       rintro e wn ⟨rfl, hpn, hgn⟩
                       refine ⟨_, rfl, ?_⟩
                       have hxn := Lib.hid (blk_grown hxw6.out (grown_undrew hgn) (by omega))
                       have hcn := blk_cell hxn.out 2
                       simp only [List.getElem?_toArray, List.getElem?_cons_succ, List.getElem?_cons_zero] at hcn
                       have han : ∀ o, (wn.alloc o).cell? ⟨bx, 2, none⟩ = some (.slice iA rsi.length ic) := fun o => blk_cell (blk_alloc hxn.out o) 2)
                    | (refine step_push (by rfl) _ _ _ (by rfl) (bx + 1) 3 _ 1 8 Tryz.underlying38 infoInt rfl (by decide) (by decide) (.slice iA rsi.length ic) rsi.length (intsCells rsi) #[.int .i64 n2] wn.heap.size (by rfl)
                        (((own_grown (g := g) (w := w6) horw6 (grown_undrew hgn) (by omega)).alloc _)) (heap_alloc_new wn _) (by rfl) rfl (by simp [Value.oneCell']) (by omega) (by have := hgn.size; simp at this; simp; omega) ?_
                       intro Ap cp wp hownp hbp hgp
                       have hxp : wp.heap[bx]? = some (.cells #[.string NM, .slice fA fs.length fc, .slice iA rsi.length ic] 40 (0, 0)) := (hbp.block bx (by omega)).trans (blk_alloc hxn.out _)
                       have hfp := blk_frozen hxp 2
                       have hcp := blk_cell hxp 2
                       simp only [List.getElem?_toArray, List.getElem?_cons_succ, List.getElem?_cons_zero] at hcp
                       replace hxp := Lib.hid hxp)
                    | fail)
                all_goals
                  have hsn := hgn.size
                  have hsx : bx < wn.heap.size := blk_lt hxn.out
                  have hgrn := grown_trans hgrw6 (grown_undrew hgn)
                  have hrn := blk_grown hrw6.out (grown_undrew hgn) (by omega)
                  have horn := own_grown horw6 (grown_undrew hgn) (by omega)
                  have hofn := own_grown hofw6 (grown_undrew hgn) (by omega)
                  have hofp := World.ownsRow.kept (hofn.alloc (.cells #[.int .i64 n2] 3)) hgp (by
                    rcases own_type_ne hofn horn (by decide) with h1 | h1
                    · exact .inl h1
                    · exact .inr h1)
                  have hpp := ((hpn.alloc (by omega) (.cells #[.int .i64 n2] 3)).below (by omega) hbp).setCell (a := ⟨bx, 2, none⟩) (by simp only; omega) (.slice Ap (rsi.length + 1) cp)
                  have hrp := blk_set ((hbp.block w.heap.size (by omega)).trans (blk_alloc hrn (.cells #[.int .i64 n2] 3))) (a := ⟨bx, 2, none⟩) (by simp only; omega) (.slice Ap (rsi.length + 1) cp)
                  have hgrp := grown_set (grown_below (grown_trans hgrn (World.grownBy_alloc wn (.cells #[.int .i64 n2] 3) (some g))) hbp (by omega)) (a := ⟨bx, 2, none⟩) (by simp only; omega) (.slice Ap (rsi.length + 1) cp)
                  have hxq := setCell_heap hxp.out 2 (.slice Ap (rsi.length + 1) cp)
                  have hofq := own_set hofp (a := ⟨bx, 2, none⟩) (by simp only; omega) (.slice Ap (rsi.length + 1) cp)
                  have horq := own_set hownp (a := ⟨bx, 2, none⟩) (by simp only; omega) (.slice Ap (rsi.length + 1) cp)
                  have hsp : bx + 1 ≤ (wp.setCell ⟨bx, 2, none⟩ (.slice Ap (rsi.length + 1) cp)).heap.size := by rw [setCell_size]; have := hbp.size; simp at this; omega
                  clear han hcp hfp hcn hcl2 hfl2 hxn hxp hofp hrn horn hofn hgrn
                  replace hrp := Lib.hid hrp; replace hpp := Lib.hid hpp; replace hxq := Lib.hid hxq; replace hofq := Lib.hid hofq; replace horq := Lib.hid horq; replace hgrp := Lib.hid hgrp; replace hsp := Lib.hid hsp
                  go_wp2
                  go_roundg k2
                  case measure => omega
                  case rel =>
                    refine ⟨u2, rsi ++ [n2], .slice Ap (rsi.length + 1) cp, hpp.out, hgrp.out, hrp.out, hxq.out, hofq.out, ?_, hsp.out, ?_, ⟨by omega, by omega⟩, by simp; omega, hzn2⟩
                    · rw [intsCells_snoc, List.length_append]; exact horq.out
                    · rw [← hqn2.out, ← hqs2.out]; exact hst2
      · have hfin := Lib.hid (show R = (takesS w_rbrace st, fs, rs) by rw [hst.out]; simp)
        clear htn hst htr hlr hlt cR
        go_wp2_with fail
        refine cT.out.mono ?_; rintro e w3 ⟨rfl, hps, hg3⟩
        replace hgr := grown_trans hgr hg3
        have hr := blk_grown hr'.out hg3 (by omega)
        have hx := blk_grown hx'.out hg3 (by omega)
        replace hof := own_grown hof hg3 (by omega)
        replace hor := own_grown hor hg3 (by omega)
        clear cT hg3 hr' hx'
        replace hps := Lib.hid hps
        have hc0 := blk_cell hx 0
        have hf0 := blk_frozen hx 0
        have hc1 := blk_cell hx 1
        have hf1 := blk_frozen hx 1
        have hc2 := blk_cell hx 2
        have hf2 := blk_frozen hx 2
        simp only [List.getElem?_toArray, List.getElem?_cons_succ, List.getElem?_cons_zero] at hc0 hc1 hc2
        have hd0 := blk_cell hr 0
        have he0 := blk_frozen hr 0
        have hd1 := blk_cell hr 1
        have he1 := blk_frozen hr 1
        have hd2 := blk_cell hr 2
        have he2 := blk_frozen hr 2
        simp only [List.getElem?_toArray, List.getElem?_cons_succ, List.getElem?_cons_zero] at hd0 hd1 hd2
        replace hx := Lib.hid hx; replace hr := Lib.hid hr
        go_wp2
        refine bodyPost_ret (v := .agg #[.string NM, .slice fA fs.length fc, .slice rA rs.length rc]) (by simp [results, Tryz.results109, go_sem, *]) rfl ?_
        unfold MessagePost
        rw [hv.out, hs.out, hfin.out]
        refine ⟨.slice fA fs.length fc, .slice rA rs.length rc, rfl, ?_, ?_, ?_, ?_⟩
        · exact ((hps.out.setCell (by simpa using hN) _).setCell (by simpa using hN) _).setCell (by simpa using hN) _
        · exact grown_set (grown_set (grown_set hgr (Nat.le_refl _) _) (Nat.le_refl _) _) (Nat.le_refl _) _
        · exact own_mono (own_set (own_set (own_set hof (by simp only; omega) _) (by simp only; omega) _) (by simp only; omega) _) (by omega)
        · exact own_mono (own_set (own_set (own_set hor (by simp only; omega) _) (by simp only; omega) _) (by simp only; omega) _) (by omega)

end Go.Proofs.YtkpgaccgcdoijaaGreatDoor

namespace Go.Proofs.YtkpgaccgcdoijaaGreatDoor
open Go.RowKit

/-! ### blocks of some types stay as they are -/
def TyKept (T : List Nat) (w w' : World) : Prop := ∀ (k : Nat) (c : Array Value) (e : TypeId) (fr : Nat × Nat), w.heap[k]? = some (.cells c e fr) → e ∈ T → w'.heap[k]? = w.heap[k]?
theorem TyKept.refl (T : List Nat) (w : World) : TyKept T w w := fun _ _ _ _ _ _ => rfl
theorem TyKept.trans {T : List Nat} {a b c : World} (h : TyKept T a b) (k : TyKept T b c) : TyKept T a c :=
  fun i cs e fr hi he => (k i cs e fr ((h i cs e fr hi he).trans hi) he).trans (h i cs e fr hi he)
theorem TyKept.below {T : List Nat} {w w' : World} (h : Below w.heap.size w w') : TyKept T w w' := fun k _ _ _ hk _ => h.block k (blk_lt hk)
theorem TyKept.alloc {T : List Nat} (w : World) (o : Obj) : TyKept T w (w.alloc o) := fun k _ _ _ hk _ => Below.heap_alloc w o k (blk_lt hk)
theorem TyKept.drew {T : List Nat} (w : World) : TyKept T w w.drew := fun _ _ _ _ _ _ => rfl
theorem TyKept.set {T : List Nat} {w : World} {a : Addr} {c : Array Value} {e : TypeId} {fr : Nat × Nat} (hh : w.heap[a.block]? = some (.cells c e fr)) (he : e ∉ T) (v : Value) : TyKept T w (w.setCell a v) := by
  intro k c' e' fr' hk he'
  refine Below.heap_setCell w a v k (fun hka => ?_)
  rw [hka, hh] at hk
  injection hk with hk
  injection hk with _ h2
  exact he (h2 ▸ he')
theorem TyKept.grown {T : List Nat} {w w' : World} {g : Nat} {c : Array Value} {e : TypeId} {fr : Nat × Nat} (h : w.grownBy w' (some g)) (hh : w.heap[g]? = some (.cells c e fr)) (he : e ∉ T) : TyKept T w w' := by
  intro k c' e' fr' hk he'
  refine h.block k (blk_lt hk) (fun hkg => ?_)
  have : k = g := Option.some.inj hkg
  rw [this, hh] at hk
  injection hk with hk
  injection hk with _ h2
  exact he (h2 ▸ he')
theorem TyKept.row {T : List Nat} {w w' : World} {b n s : Nat} {e : TypeId} {v : Value} {xs : List Value} (hown : w.ownsRow b e s v n xs) (h : w.grownBy w' v.ownBlock) (he : e ∉ T) : TyKept T w w' := by
  intro k c' e' fr' hk he'
  refine h.block k (blk_lt hk) (fun hkg => ?_)
  rcases hown.2 with ⟨rfl, _⟩ | ⟨g, cap, cur, rfl, _, hh, _⟩
  · simp [Value.ownBlock] at hkg
  · have : k = g := by simpa [Value.ownBlock] using hkg
    rw [this, hh] at hk
    injection hk with hk
    injection hk with _ h2
    exact he (h2 ▸ he')
theorem own_ty {T : List Nat} {w w' : World} {b n s : Nat} {e : TypeId} {v : Value} {xs : List Value} (hown : w.ownsRow b e s v n xs) (h : TyKept T w w') (he : e ∈ T) : w'.ownsRow b e s v n xs := by
  refine ⟨hown.1, ?_⟩
  rcases hown.2 with h1 | ⟨g, cap, cur, h1, h2, hh, h4⟩
  · exact .inl h1
  · exact .inr ⟨g, cap, cur, h1, h2, (h g cur e _ hh he).trans hh, h4⟩

theorem TyKept.mono {T T' : List Nat} {w w' : World} (h : TyKept T w w') (hs : ∀ e ∈ T', e ∈ T) : TyKept T' w w' := fun k c e fr hk he => h k c e fr hk (hs e he)
theorem PS.blk {N g : Nat} {s : St} {w : World} (h : PS N g s w) : ∃ c : Array Value, w.heap[g]? = some (.cells c 110 (0, 0)) := by
  obtain ⟨_, A, c, hh, _⟩ := h
  exact ⟨_, hh⟩

/-! ### lists do not grow; texts stay small -/
theorem takes_len (t : ByteArray) (s : St) : (takesS t s).l.length ≤ s.l.length := by unfold takesS; split <;> simp
theorem need_len (t : ByteArray) (s : St) : (needS t s).l.length ≤ s.l.length := by unfold needS; split <;> simp
theorem needs_len (ts : List ByteArray) : ∀ s : St, (needsS ts s).l.length ≤ s.l.length := by
  induction ts with
  | nil => intro s; exact Nat.le_refl _
  | cons t r ih => intro s; exact Nat.le_trans (ih (needS t s)) (need_len t s)
theorem name_len (s : St) : (nameS s).l.length ≤ s.l.length := by unfold nameS; split <;> simp
theorem number_len (s : St) : (numberS s).l.length ≤ s.l.length := by unfold numberS; split <;> simp
theorem kind_len (s : St) : (kindQ s).2.2.l.length ≤ s.l.length := by
  unfold kindQ
  generalize kindWords = l
  generalize (1 : Int) = i
  induction l generalizing i with
  | nil => exact name_len s
  | cons t r ih =>
    simp only [kindFrom]
    split
    · exact takes_len t s
    · exact ih _
theorem label_len (s : St) : (labelS s).l.length ≤ s.l.length := by unfold labelS; split <;> exact takes_len _ _
theorem field_len (s : St) : (fieldS s).l.length ≤ s.l.length :=
  Nat.le_trans (needs_len _ _) (Nat.le_trans (number_len _) (Nat.le_trans (needs_len _ _) (Nat.le_trans (name_len _) (Nat.le_trans (kind_len _) (label_len _)))))
theorem named_len (s : St) : (namedS s).l.length ≤ s.l.length :=
  Nat.le_trans (needs_len _ _) (Nat.le_trans (number_len _) (Nat.le_trans (needs_len _ _) (name_len _)))
theorem comma_len : ∀ (k : Nat) (s : St) (rs : List Int), (commaFrom k s rs).1.l.length ≤ s.l.length
  | 0, s, _ => Nat.le_refl _
  | k + 1, s, rs => by
    simp only [commaFrom]
    split
    · exact Nat.le_trans (comma_len k _ _) (Nat.le_trans (number_len _) (takes_len _ s))
    · exact Nat.le_refl _
theorem messageFrom_len : ∀ k s fs rs, (messageFrom k s fs rs).1.l.length ≤ s.l.length
  | 0, s, _, _ => Nat.le_refl _
  | k + 1, s, fs, rs => by
    simp only [messageFrom]
    split
    · exact Nat.le_refl _
    · split
      · exact takes_len _ s
      · split
        · exact Nat.le_trans (messageFrom_len k _ _ _) (Nat.le_trans (needs_len _ _) (Nat.le_trans (comma_len k _ _) (Nat.le_trans (number_len _) (takes_len _ s))))
        · exact Nat.le_trans (messageFrom_len k _ _ _) (field_len s)
theorem message_len (s : St) : (messageS s).l.length ≤ s.l.length := Nat.le_trans (messageFrom_len _ _ _ _) (Nat.le_trans (needs_len _ _) (name_len s))
theorem enumFrom_len : ∀ k s vs, (enumFrom k s vs).1.l.length ≤ s.l.length
  | 0, s, _ => Nat.le_refl _
  | k + 1, s, vs => by
    simp only [enumFrom]
    split
    · exact Nat.le_refl _
    · split
      · exact takes_len _ s
      · exact Nat.le_trans (enumFrom_len k _ _) (named_len s)
theorem enum_len (s : St) : (enumS s).l.length ≤ s.l.length := Nat.le_trans (enumFrom_len _ _ _) (Nat.le_trans (needs_len _ _) (name_len s))
theorem call_len (s : St) : (callS s).l.length ≤ s.l.length :=
  Nat.le_trans (needs_len _ _) (Nat.le_trans (name_len _) (Nat.le_trans (needs_len _ _) (Nat.le_trans (name_len _) (Nat.le_trans (needs_len _ _) (name_len s)))))
theorem messageFrom_small : ∀ k (s : St) fs rs, s.Small → (messageFrom k s fs rs).1.Small
  | 0, s, _, _, h => h
  | k + 1, s, fs, rs, h => by
    simp only [messageFrom]
    split
    · exact h
    · split
      · exact h.takes _
      · split
        · exact messageFrom_small k _ _ _ (((h.takes _).number.comma _ _).needs _)
        · exact messageFrom_small k _ _ _ h.field
theorem St.Small.message {s : St} (h : s.Small) : (messageS s).Small := messageFrom_small _ _ _ _ (h.name.needs _)
theorem enumFrom_small : ∀ k (s : St) vs, s.Small → (enumFrom k s vs).1.Small
  | 0, s, _, h => h
  | k + 1, s, vs, h => by
    simp only [enumFrom]
    split
    · exact h
    · split
      · exact h.takes _
      · exact enumFrom_small k _ _ h.named
theorem St.Small.enum {s : St} (h : s.Small) : (enumS s).Small := enumFrom_small _ _ _ (h.name.needs _)
theorem St.Small.call {s : St} (h : s.Small) : (callS s).Small := (((h.name.needs _).name.needs _).name).needs _

theorem own_same {w w' : World} {b n s : Nat} {e : TypeId} {v : Value} {xs : List Value} (hown : w.ownsRow b e s v n xs) (h : ∀ k, b ≤ k → w'.heap[k]? = w.heap[k]?) : w'.ownsRow b e s v n xs := by
  refine ⟨hown.1, ?_⟩
  rcases hown.2 with h1 | ⟨g, cap, cur, h1, h2, hh, h4⟩
  · exact .inl h1
  · exact .inr ⟨g, cap, cur, h1, h2, (h g h2).trans hh, h4⟩

/-! ### the parts of a schema, owned -/
/-- Messages in a row's cells: their own rows lie in blocks from B on, below E, each behind the one ahead. -/
def MsgRow (w : World) (E : Nat) : Nat → List MessageD → List Value → Prop
  | B, [], cs => cs = [] ∧ B ≤ E
  | B, m :: r, cs => ∃ vf vr rest B', cs = .string m.name :: vf :: vr :: rest ∧ w.ownsRow B 44 5 vf m.fields.length (fieldsCells m.fields) ∧ w.ownsRow B 3 1 vr m.reserved.length (intsCells m.reserved) ∧
      (∀ k, vf.ownBlock = some k → k < B') ∧ (∀ k, vr.ownBlock = some k → k < B') ∧ B ≤ B' ∧ MsgRow w E B' r rest
theorem MsgRow.kept {w w' : World} (hk : TyKept [44, 3] w w') {E : Nat} : ∀ {B : Nat} {l : List MessageD} {cs : List Value}, MsgRow w E B l cs → MsgRow w' E B l cs
  | _, [], _, h => h
  | _, _ :: _, _, ⟨vf, vr, rest, B', h1, h2, h3, h4, h5, h6, h7⟩ => ⟨vf, vr, rest, B', h1, own_ty h2 hk (by decide), own_ty h3 hk (by decide), h4, h5, h6, MsgRow.kept hk h7⟩
theorem MsgRow.le {w : World} {E : Nat} : ∀ {B : Nat} {l : List MessageD} {cs : List Value}, MsgRow w E B l cs → B ≤ E
  | _, [], _, h => h.2
  | _, _ :: _, _, ⟨_, _, _, _, _, _, _, _, _, h6, h7⟩ => Nat.le_trans h6 (MsgRow.le h7)
theorem MsgRow.snoc {w : World} {E E' : Nat} {m : MessageD} {vf vr : Value} (hf : w.ownsRow E 44 5 vf m.fields.length (fieldsCells m.fields)) (hr : w.ownsRow E 3 1 vr m.reserved.length (intsCells m.reserved))
    (h1 : ∀ k, vf.ownBlock = some k → k < E') (h2 : ∀ k, vr.ownBlock = some k → k < E') (hE : E ≤ E') : ∀ {B : Nat} {l : List MessageD} {cs : List Value}, MsgRow w E B l cs → MsgRow w E' B (l ++ [m]) (cs ++ [.string m.name, vf, vr])
  | _, [], _, ⟨rfl, hB⟩ => ⟨vf, vr, [], E', rfl, own_mono hf hB, own_mono hr hB, h1, h2, Nat.le_trans hB hE, rfl, Nat.le_refl _⟩
  | _, _ :: _, _, ⟨vf', vr', rest, B', e1, e2, e3, e4, e5, e6, e7⟩ => ⟨vf', vr', rest ++ [.string m.name, vf, vr], B', by rw [e1]; rfl, e2, e3, e4, e5, e6, MsgRow.snoc hf hr h1 h2 hE e7⟩
theorem MsgRow.length {w : World} {E : Nat} : ∀ {B : Nat} {l : List MessageD} {cs : List Value}, MsgRow w E B l cs → cs.length = l.length * 3
  | _, [], _, h => by rw [h.1]; rfl
  | _, _ :: r, _, ⟨_, _, rest, _, e1, _, _, _, _, _, e7⟩ => by rw [e1]; have := MsgRow.length e7; simp only [List.length_cons]; omega

def EnumRow (w : World) (E : Nat) : Nat → List EnumD → List Value → Prop
  | B, [], cs => cs = [] ∧ B ≤ E
  | B, m :: r, cs => ∃ vf rest B', cs = .string m.name :: vf :: rest ∧ w.ownsRow B 49 2 vf m.values.length (namedsCells m.values) ∧ (∀ k, vf.ownBlock = some k → k < B') ∧ B ≤ B' ∧ EnumRow w E B' r rest
theorem EnumRow.kept {w w' : World} (hk : TyKept [49] w w') {E : Nat} : ∀ {B : Nat} {l : List EnumD} {cs : List Value}, EnumRow w E B l cs → EnumRow w' E B l cs
  | _, [], _, h => h
  | _, _ :: _, _, ⟨vf, rest, B', h1, h2, h4, h6, h7⟩ => ⟨vf, rest, B', h1, own_ty h2 hk (by decide), h4, h6, EnumRow.kept hk h7⟩
theorem EnumRow.le {w : World} {E : Nat} : ∀ {B : Nat} {l : List EnumD} {cs : List Value}, EnumRow w E B l cs → B ≤ E
  | _, [], _, h => h.2
  | _, _ :: _, _, ⟨_, _, _, _, _, _, h6, h7⟩ => Nat.le_trans h6 (EnumRow.le h7)
theorem EnumRow.snoc {w : World} {E E' : Nat} {m : EnumD} {vf : Value} (hf : w.ownsRow E 49 2 vf m.values.length (namedsCells m.values))
    (h1 : ∀ k, vf.ownBlock = some k → k < E') (hE : E ≤ E') : ∀ {B : Nat} {l : List EnumD} {cs : List Value}, EnumRow w E B l cs → EnumRow w E' B (l ++ [m]) (cs ++ [.string m.name, vf])
  | _, [], _, ⟨rfl, hB⟩ => ⟨vf, [], E', rfl, own_mono hf hB, h1, Nat.le_trans hB hE, rfl, Nat.le_refl _⟩
  | _, _ :: _, _, ⟨vf', rest, B', e1, e2, e4, e6, e7⟩ => ⟨vf', rest ++ [.string m.name, vf], B', by rw [e1]; rfl, e2, e4, e6, EnumRow.snoc hf h1 hE e7⟩
theorem EnumRow.length {w : World} {E : Nat} : ∀ {B : Nat} {l : List EnumD} {cs : List Value}, EnumRow w E B l cs → cs.length = l.length * 2
  | _, [], _, h => by rw [h.1]; rfl
  | _, _ :: r, _, ⟨_, rest, _, e1, _, _, _, e7⟩ => by rw [e1]; have := EnumRow.length e7; simp only [List.length_cons]; omega

theorem MsgRow.wider {w : World} {E E' : Nat} (hE : E ≤ E') : ∀ {B B' : Nat} {l : List MessageD} {cs : List Value}, B' ≤ B → MsgRow w E B l cs → MsgRow w E' B' l cs
  | _, _, [], _, hB, h => ⟨h.1, Nat.le_trans hB (Nat.le_trans h.2 hE)⟩
  | _, _, _ :: _, _, hB, ⟨vf, vr, rest, B1, h1, h2, h3, h4, h5, h6, h7⟩ => ⟨vf, vr, rest, B1, h1, own_mono h2 hB, own_mono h3 hB, h4, h5, Nat.le_trans hB h6, MsgRow.wider hE (Nat.le_refl _) h7⟩
theorem EnumRow.wider {w : World} {E E' : Nat} (hE : E ≤ E') : ∀ {B B' : Nat} {l : List EnumD} {cs : List Value}, B' ≤ B → EnumRow w E B l cs → EnumRow w E' B' l cs
  | _, _, [], _, hB, h => ⟨h.1, Nat.le_trans hB (Nat.le_trans h.2 hE)⟩
  | _, _, _ :: _, _, hB, ⟨vf, rest, B1, h1, h2, h4, h6, h7⟩ => ⟨vf, rest, B1, h1, own_mono h2 hB, h4, Nat.le_trans hB h6, EnumRow.wider hE (Nat.le_refl _) h7⟩

def methodsCells (l : List MethodD) : List Value := l.flatMap methodCells
theorem methodsCells_snoc (l : List MethodD) (t : MethodD) : methodsCells (l ++ [t]) = methodsCells l ++ methodCells t := by simp [methodsCells]

theorem infoMessage : (Tryz.prog.info? 40).map (fun i => (i.zero, i.size, i.bytes)) = some (some (.agg #[.string ⟨#[]⟩, .slice none 0 0, .slice none 0 0]), 3, 64) := by kernel_rfl
theorem infoEnum : (Tryz.prog.info? 47).map (fun i => (i.zero, i.size, i.bytes)) = some (some (.agg #[.string ⟨#[]⟩, .slice none 0 0]), 2, 40) := by kernel_rfl
theorem infoMethod : (Tryz.prog.info? 54).map (fun i => (i.zero, i.size, i.bytes)) = some (some (.agg #[.string ⟨#[]⟩, .string ⟨#[]⟩, .string ⟨#[]⟩]), 3, 48) := by kernel_rfl

/-- A schema's value that is owned: its rows lie in blocks from B on, below E. -/
def OwnSchema (w : World) (B E : Nat) (x : SchemaD) (vm ve vc : Value) : Prop :=
  ∃ mcs ecs, w.ownsRow B 40 3 vm x.messages.length mcs ∧ w.ownsRow B 47 2 ve x.enums.length ecs ∧ w.ownsRow B 54 3 vc x.methods.length (methodsCells x.methods) ∧
    MsgRow w E B x.messages mcs ∧ EnumRow w E B x.enums ecs
def SchemaPost (N g : Nat) (s : St) (w : World) (e : Ending) (w' : World) : Prop :=
  ∃ vm ve vc, e = .returned (.agg #[.string (schemaV s).name, vm, ve, vc]) ∧ PS N g (schemaS s) w' ∧ w.grownBy w' (some g) ∧ OwnSchema w' (w.heap.size + 1) w'.heap.size (schemaV s) vm ve vc

end Go.Proofs.YtkpgaccgcdoijaaGreatDoor

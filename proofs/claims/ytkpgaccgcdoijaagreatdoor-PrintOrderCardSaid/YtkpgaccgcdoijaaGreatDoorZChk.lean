import Derived.Test.YtkpgaccgcdoijaaGreatDoorZRes
namespace Go.Proofs.YtkpgaccgcdoijaaGreatDoor
open Go.RowKit

/-- What takes leaves. -/
def TakesPost (b n : Nat) (S : List ByteArray) (s : ByteArray) (w : World) (e : Ending) (w' : World) : Prop :=
  e = .returned (.bool (takesB S s)) ∧ KSet w' 9 4 b (n + 1) ((takesN S s).map sLit) ∧ w.grownBy w' (some b)

theorem KSet.more {w : World} {k e : TypeId} {b n n' : Nat} {S : List Lit} (h : KSet w k e b n S) (hn : n ≤ n') : KSet w k e b n' S := by
  obtain ⟨D, h1, h2, h3⟩ := h
  obtain ⟨es, clock, q1, q2, q3, q4⟩ := h1
  exact ⟨D, ⟨es, clock, q1, q2, by omega, q4⟩, h2, h3⟩

set_option maxHeartbeats 2000000 in
theorem taken_calls (b n : Nat) (S : List ByteArray) (s : ByteArray) (w : World) (hT : Tabs w) (hs : s.size ≤ maxLen) (hn : n < 1000000) (h : KSet w 9 4 b n (S.map sLit)) :
    Calls Tryz.prog 52 #[.map (some b), .string s] w (TakesPost b n S s w) := by
  have hv : takesB S s = (nameP s && !hasB S s) := rfl
  have hN : takesN S s = if takesB S s then s :: S else S := rfl
  have cN := name_calls s w hT hs
  generalize nameP s = nm at hv cN
  replace cN := Lib.hid cN; replace h := Lib.hid h; replace hN := Lib.hid hN; replace hv := Lib.hid hv
  have hbw := h.out.lt
  go_enter Tryz.func52, Tryz.ntmps52
  go_wp2_with fail
  refine cN.out.mono ?_; rintro e w1 ⟨rfl, hb1⟩
  have hk1 := Lib.hid (h.out.kept (hb1.block b hbw))
  obtain ⟨qb, hlook, hqb⟩ := hk1.out.look (Go.Maps.string_keyed Tryz.underlying9) Tryz.underlying85 Tryz.underlying4 (infoB w1) (keyOf_str hs)
  replace hqb := Lib.hid (hqb.trans hasB_lit)
  have hg1 := Lib.hid (grown_of_belowB hb1 (some b))
  cases nm with
  | false =>
    have hf : Hid (takesB S s = false) := Lib.hid (by rw [hv.out]; rfl)
    go_wp2
    go_ret
    exact ⟨ret_bool hf.out.symm, by rw [hN.out, hf.out]; exact hk1.out.more (Nat.le_succ _), hg1.out⟩
  | true =>
    cases qb with
    | true =>
      have hf : Hid (takesB S s = false) := Lib.hid (by rw [hv.out, hqb.out.1 rfl]; rfl)
      clear hqb
      go_wp2
      go_ret
      exact ⟨ret_bool hf.out.symm, by rw [hN.out, hf.out]; exact hk1.out.more (Nat.le_succ _), hg1.out⟩
    | false =>
      have hf : Hid (takesB S s = true) := Lib.hid (by
        rw [hv.out]
        cases hh : hasB S s
        · rfl
        · have := hqb.out.2 hh; cases this)
      clear hqb
      go_wp2_with (at_mapUpdate; refine wpList_put_true rfl _ _ _ 85 rfl 9 4 (Go.Maps.string_keyed Tryz.underlying9) Tryz.underlying85 Tryz.underlying4 b n _ rfl hk1.out (by unfold maxLen; omega) (.string s) (sLit s) rfl rfl (keyOf_str hs) ?_; intro w2 hks2 hgr2)
      replace hks2 := Lib.hid hks2
      go_ret
      exact ⟨ret_bool hf.out.symm, by rw [hN.out, hf.out]; exact hks2.out, grown_trans hg1.out hgr2⟩

end Go.Proofs.YtkpgaccgcdoijaaGreatDoor

namespace Go.Proofs.YtkpgaccgcdoijaaGreatDoor
open Go.RowKit

/-- A part of a name: found, or not. -/
def MsgFound (q : Bool) (w : World) (e : Ending) (w' : World) : Prop :=
  ∃ (s : ByteArray) (A : Option Addr) (n c : Nat) (A2 : Option Addr) (n2 c2 : Nat), e = .returned (.tuple #[.agg #[.string s, .slice A n c, .slice A2 n2 c2], .bool q]) ∧ Below w.heap.size w w'
def EnumFound (q : Bool) (w : World) (e : Ending) (w' : World) : Prop :=
  ∃ (s : ByteArray) (A : Option Addr) (n c : Nat), e = .returned (.tuple #[.agg #[.string s, .slice A n c], .bool q]) ∧ Below w.heap.size w w'
def msgB (x : SchemaD) (s : ByteArray) : Bool := hasB (x.messages.map (·.name)) s
def enumB (x : SchemaD) (s : ByteArray) : Bool := hasB (x.enums.map (·.name)) s
theorem hasB_cons (t : ByteArray) (S : List ByteArray) (s : ByteArray) : hasB (t :: S) s = (t.toList == s.toList || hasB S s) := rfl
theorem belowT {w w' : World} (h : Below w.heap.size w w') {c : Array Value} {e : TypeId} (o : Nat) (hb : w'.heap[o]? = some (.cells c e (0, 0))) (j : Nat) : w'.frozen? ⟨o, j, none⟩ = false := by simp [World.frozen?, hb]

set_option maxHeartbeats 4000000 in
theorem message_found (x : SchemaD) (vm ve vc : Value) (s : ByteArray) (w : World) (h : SchemaRd w (fun b => b < w.heap.size) x vm ve vc) :
    Calls Tryz.prog 51 #[.agg #[.string x.name, vm, ve, vc], .string s] w (MsgFound (msgB x s) w) := by
  obtain ⟨mcs, ecs, h1, h2, h3, h4, h5⟩ := h
  obtain ⟨mA, mc, rfl⟩ := h1.slice
  obtain ⟨eA, ec, rfl⟩ := h2.slice
  obtain ⟨cA, cc, rfl⟩ := h3.slice
  have hml := h1.len
  unfold maxLen at hml
  have hr1 := heap_alloc_new (w.alloc (.cells #[.string x.name, .slice mA x.messages.length mc, .slice eA x.enums.length ec, .slice cA x.methods.length cc] 26)) (.cells #[.string noText, .slice none 0 0, .slice none 0 0] 40)
  rw [sizeAlloc] at hr1
  have hb0 := ((Below.refl w.heap.size w).alloc (Nat.le_refl _) (.cells #[.string x.name, .slice mA x.messages.length mc, .slice eA x.enums.length ec, .slice cA x.methods.length cc] 26)).alloc (by simp) (.cells #[.string noText, .slice none 0 0, .slice none 0 0] 40)
  replace hr1 := Lib.hid hr1; replace hb0 := Lib.hid hb0; replace h4 := Lib.hid h4; replace h1 := Lib.hid h1
  clear h2 h3 h5
  go_enter Tryz.func51, Tryz.ntmps51
  go_wp2
  go_loopw [11] (fun i wr => ∃ (k : Nat), k ≤ x.messages.length ∧ i = .int .i64 k ∧ Below w.heap.size w wr ∧ w.heap.size + 2 ≤ wr.heap.size ∧ wr.heap[w.heap.size + 1]? = some (.cells #[.string noText, .slice none 0 0, .slice none 0 0] 40 (0, 0)) ∧ msgB x s = hasB ((x.messages.drop k).map (·.name)) s) (fun i _ => x.messages.length - (intOf i).toNat)
  case atStart => exact ⟨0, Nat.zero_le _, rfl, hb0.out, by simp, hr1.out, rfl⟩
  case round =>
    obtain ⟨k, hk, rfl, hbw, hsz, hbk, hB⟩ := hrel
    replace hB := Lib.hid hB
    obtain ⟨w1, rfl⟩ : ∃ wo : World, wo = wr := ⟨_, rfl⟩
    by_cases hlt : k < x.messages.length
    · have hlt' : (k : Int) < (x.messages.length : Int) := by omega
      obtain ⟨b, o, c, hv, hS, hc⟩ := h1.out.form (by omega)
      injection hv with hv1 hv2 hv3
      subst hv1
      subst hv3
      obtain ⟨vf, vr, g0, g1, g2, gf, gr⟩ := MsgRd.get k hlt h4.out
      obtain ⟨fA, fc, rfl⟩ := gf.slice
      obtain ⟨rA, rc, rfl⟩ := gr.slice
      have cellk : ∀ j v, k * 3 + j < x.messages.length * 3 → mcs[k * 3 + j]? = some v → w1.cell? ⟨b, o + k * 3 + j, none⟩ = some v := fun j v hj hv =>
        (World.cell?_of_block (w := w) (hbw.block b hS)).trans (by rw [Nat.add_assoc]; exact (hc _ hj).trans hv)
      have hk0 := cellk 0 _ (by omega) g0
      have hk1 := cellk 1 _ (by omega) g1
      have hk2 := cellk 2 _ (by omega) g2
      rw [Nat.add_zero] at hk0
      replace gf := Lib.hid gf; replace gr := Lib.hid gr; clear g0 g1 g2
      clear cellk hc
      have hst : Hid (msgB x s = (x.messages[k].name.toList == s.toList || hasB ((x.messages.drop (k + 1)).map (·.name)) s)) := Lib.hid (by rw [hB.out, List.drop_eq_getElem_cons hlt]; rfl)
      generalize x.messages[k].name = nm at hk0 hst
      generalize x.messages[k].fields.length = fn at hk1
      generalize x.messages[k].reserved.length = rn at hk2
      clear gf gr
      have hbn := Lib.hid (hbw.alloc hbw.size (.cells #[.string nm, .slice fA fn fc, .slice rA rn rc] 40))
      cases hq : (nm.toList == s.toList) with
      | false =>
        have hfin : Hid (msgB x s = hasB ((x.messages.drop (k + 1)).map (·.name)) s) := Lib.hid (by rw [hst.out, hq]; rfl)
        clear hst
        have hbk2 := Lib.hid ((Below.heap_alloc w1 (.cells #[.string nm, .slice fA fn fc, .slice rA rn rc] 40) _ (by omega)).trans hbk)
        replace hbk := Lib.hid hbk
        go_wp2
        go_roundw
        case rel => exact ⟨k + 1, by omega, by go_num, hbn.out, by simp; omega, hbk2.out, hfin.out⟩
        case measure => simp [intOf]; omega
      | true =>
        have hfin : Hid (msgB x s = true) := Lib.hid (by rw [hst.out, hq]; rfl)
        clear hst
        have hbk2 := (Below.heap_alloc w1 (.cells #[.string nm, .slice fA fn fc, .slice rA rn rc] 40) _ (by omega)).trans hbk
        have hfz := fun j => belowT hbn.out _ hbk2 j
        have hz0 := blk_cell hbk2 0
        have hz1 := blk_cell hbk2 1
        have hz2 := blk_cell hbk2 2
        simp only [List.getElem?_toArray, List.getElem?_cons_succ, List.getElem?_cons_zero] at hz0 hz1 hz2
        replace hbk2 := Lib.hid hbk2
        replace hbk := Lib.hid hbk
        go_wp2
        refine bodyPost_ret (v := .tuple #[.agg #[.string nm, .slice fA fn fc, .slice rA rn rc], .bool true]) (by simp [results, Tryz.results51, go_sem, *]) rfl ?_
        rw [hfin.out]
        exact ⟨_, _, _, _, _, _, _, rfl, hbn.out.setCell (by simp) _ |>.setCell (by simp) _ |>.setCell (by simp) _⟩
    · have hke : k = x.messages.length := by omega
      subst hke
      have hfin : Hid (msgB x s = false) := Lib.hid (by rw [hB.out, List.drop_length]; rfl)
      have hfz := fun j => belowT hbw _ hbk j
      have hz0 := blk_cell hbk 0
      have hz1 := blk_cell hbk 1
      have hz2 := blk_cell hbk 2
      simp only [List.getElem?_toArray, List.getElem?_cons_succ, List.getElem?_cons_zero] at hz0 hz1 hz2
      have hbn := Lib.hid hbw
      replace hbk := Lib.hid hbk
      clear hbw
      go_wp2
      refine bodyPost_ret (v := .tuple #[.agg #[.string noText, .slice none 0 0, .slice none 0 0], .bool false]) (by simp [results, Tryz.results51, go_sem, *, noText]) rfl ?_
      rw [hfin.out]
      exact ⟨_, _, _, _, _, _, _, rfl, hbn.out.setCell (by simp) _ |>.setCell (by simp) _ |>.setCell (by simp) _⟩

set_option maxHeartbeats 4000000 in
theorem enum_found (x : SchemaD) (vm ve vc : Value) (s : ByteArray) (w : World) (h : SchemaRd w (fun b => b < w.heap.size) x vm ve vc) :
    Calls Tryz.prog 126 #[.agg #[.string x.name, vm, ve, vc], .string s] w (EnumFound (enumB x s) w) := by
  obtain ⟨mcs, ecs, h1, h2, h3, h4, h5⟩ := h
  obtain ⟨mA, mc, rfl⟩ := h1.slice
  obtain ⟨eA, ec, rfl⟩ := h2.slice
  obtain ⟨cA, cc, rfl⟩ := h3.slice
  have hml := h2.len
  unfold maxLen at hml
  have hr1 := heap_alloc_new (w.alloc (.cells #[.string x.name, .slice mA x.messages.length mc, .slice eA x.enums.length ec, .slice cA x.methods.length cc] 26)) (.cells #[.string noText, .slice none 0 0] 47)
  rw [sizeAlloc] at hr1
  have hb0 := ((Below.refl w.heap.size w).alloc (Nat.le_refl _) (.cells #[.string x.name, .slice mA x.messages.length mc, .slice eA x.enums.length ec, .slice cA x.methods.length cc] 26)).alloc (by simp) (.cells #[.string noText, .slice none 0 0] 47)
  replace hr1 := Lib.hid hr1; replace hb0 := Lib.hid hb0; replace h5 := Lib.hid h5; replace h2 := Lib.hid h2
  clear h1 h3 h4
  go_enter Tryz.func126, Tryz.ntmps126
  go_wp2
  go_loopw [11] (fun i wr => ∃ (k : Nat), k ≤ x.enums.length ∧ i = .int .i64 k ∧ Below w.heap.size w wr ∧ w.heap.size + 2 ≤ wr.heap.size ∧ wr.heap[w.heap.size + 1]? = some (.cells #[.string noText, .slice none 0 0] 47 (0, 0)) ∧ enumB x s = hasB ((x.enums.drop k).map (·.name)) s) (fun i _ => x.enums.length - (intOf i).toNat)
  case atStart => exact ⟨0, Nat.zero_le _, rfl, hb0.out, by simp, hr1.out, rfl⟩
  case round =>
    obtain ⟨k, hk, rfl, hbw, hsz, hbk, hB⟩ := hrel
    replace hB := Lib.hid hB
    obtain ⟨w1, rfl⟩ : ∃ wo : World, wo = wr := ⟨_, rfl⟩
    by_cases hlt : k < x.enums.length
    · have hlt' : (k : Int) < (x.enums.length : Int) := by omega
      obtain ⟨b, o, c, hv, hS, hc⟩ := h2.out.form (by omega)
      injection hv with hv1 hv2 hv3
      subst hv1
      subst hv3
      obtain ⟨vf, g0, g1, gf⟩ := EnumRd.get k hlt h5.out
      obtain ⟨fA, fc, rfl⟩ := gf.slice
      have cellk : ∀ j v, k * 2 + j < x.enums.length * 2 → ecs[k * 2 + j]? = some v → w1.cell? ⟨b, o + k * 2 + j, none⟩ = some v := fun j v hj hv =>
        (World.cell?_of_block (w := w) (hbw.block b hS)).trans (by rw [Nat.add_assoc]; exact (hc _ hj).trans hv)
      have hk0 := cellk 0 _ (by omega) g0
      have hk1 := cellk 1 _ (by omega) g1
      rw [Nat.add_zero] at hk0
      clear g0 g1
      clear cellk hc
      have hst : Hid (enumB x s = (x.enums[k].name.toList == s.toList || hasB ((x.enums.drop (k + 1)).map (·.name)) s)) := Lib.hid (by rw [hB.out, List.drop_eq_getElem_cons hlt]; rfl)
      generalize x.enums[k].name = nm at hk0 hst
      generalize x.enums[k].values.length = fn at hk1 gf
      clear gf
      have hbn := Lib.hid (hbw.alloc hbw.size (.cells #[.string nm, .slice fA fn fc] 47))
      cases hq : (nm.toList == s.toList) with
      | false =>
        have hfin : Hid (enumB x s = hasB ((x.enums.drop (k + 1)).map (·.name)) s) := Lib.hid (by rw [hst.out, hq]; rfl)
        clear hst
        have hbk2 := Lib.hid ((Below.heap_alloc w1 (.cells #[.string nm, .slice fA fn fc] 47) _ (by omega)).trans hbk)
        replace hbk := Lib.hid hbk
        go_wp2
        go_roundw
        case rel => exact ⟨k + 1, by omega, by go_num, hbn.out, by simp; omega, hbk2.out, hfin.out⟩
        case measure => simp [intOf]; omega
      | true =>
        have hfin : Hid (enumB x s = true) := Lib.hid (by rw [hst.out, hq]; rfl)
        clear hst
        have hbk2 := (Below.heap_alloc w1 (.cells #[.string nm, .slice fA fn fc] 47) _ (by omega)).trans hbk
        have hfz := fun j => belowT hbn.out _ hbk2 j
        have hz0 := blk_cell hbk2 0
        have hz1 := blk_cell hbk2 1
        simp only [List.getElem?_toArray, List.getElem?_cons_succ, List.getElem?_cons_zero] at hz0 hz1
        replace hbk2 := Lib.hid hbk2
        replace hbk := Lib.hid hbk
        go_wp2
        refine bodyPost_ret (v := .tuple #[.agg #[.string nm, .slice fA fn fc], .bool true]) (by simp [results, Tryz.results126, go_sem, *]) rfl ?_
        rw [hfin.out]
        exact ⟨_, _, _, _, rfl, hbn.out.setCell (by simp) _ |>.setCell (by simp) _⟩
    · have hke : k = x.enums.length := by omega
      subst hke
      have hfin : Hid (enumB x s = false) := Lib.hid (by rw [hB.out, List.drop_length]; rfl)
      have hfz := fun j => belowT hbw _ hbk j
      have hz0 := blk_cell hbk 0
      have hz1 := blk_cell hbk 1
      simp only [List.getElem?_toArray, List.getElem?_cons_succ, List.getElem?_cons_zero] at hz0 hz1
      have hbn := Lib.hid hbw
      replace hbk := Lib.hid hbk
      clear hbw
      go_wp2
      refine bodyPost_ret (v := .tuple #[.agg #[.string noText, .slice none 0 0], .bool false]) (by simp [results, Tryz.results126, go_sem, *, noText]) rfl ?_
      rw [hfin.out]
      exact ⟨_, _, _, _, rfl, hbn.out.setCell (by simp) _ |>.setCell (by simp) _⟩

end Go.Proofs.YtkpgaccgcdoijaaGreatDoor

namespace Go.Proofs.YtkpgaccgcdoijaaGreatDoor
open Go.RowKit

theorem SchemaRd.below {w w' : World} {x : SchemaD} {vm ve vc : Value} (h : SchemaRd w (fun b => b < w.heap.size) x vm ve vc) (hb : Below w.heap.size w w') : SchemaRd w' (fun b => b < w'.heap.size) x vm ve vc :=
  h.kept hb.block (fun _ k => Nat.lt_of_lt_of_le k hb.size)

def fieldB (x : SchemaD) (f : FieldD) : Bool :=
  (decide (1 ≤ f.label) && decide (f.label ≤ 3)) &&
    (if f.kind = 6 then enumB x f.tname else if f.kind = 7 then msgB x f.tname else decide (1 ≤ f.kind) && (f.tname.toList == ([] : List UInt8)) && decide (f.kind < 6))

set_option maxHeartbeats 8000000 in
theorem field_ok (x : SchemaD) (vm ve vc : Value) (f : FieldD) (w : World) (h : SchemaRd w (fun b => b < w.heap.size) x vm ve vc) (hf : f.Fit) :
    Calls Tryz.prog 81 #[.agg #[.string x.name, vm, ve, vc], .agg #[.string f.name, .int .i64 f.tag, .int .i64 f.label, .int .i64 f.kind, .string f.tname]] w fun e w' => e = .returned (.bool (fieldB x f)) ∧ Below w.heap.size w w' := by
  have hd : fieldB x f = ((decide (1 ≤ f.label) && decide (f.label ≤ 3)) &&
    (if f.kind = 6 then enumB x f.tname else if f.kind = 7 then msgB x f.tname else decide (1 ≤ f.kind) && (f.tname.toList == ([] : List UInt8)) && decide (f.kind < 6))) := rfl
  obtain ⟨fn, ft, fl, fk, fty⟩ := f
  simp only at hd ⊢
  obtain ⟨l1, l2⟩ := hf.label
  obtain ⟨k1, k2⟩ := hf.kind
  simp only at l1 l2 k1 k2
  have hb2 := Lib.hid (((Below.refl w.heap.size w).alloc (Nat.le_refl _) (.cells #[.string x.name, vm, ve, vc] 26)).alloc (by simp) (.cells #[.string fn, .int .i64 ft, .int .i64 fl, .int .i64 fk, .string fty] 44))
  have h2' := Lib.hid (h.below hb2.out)
  have cE := Lib.hid (enum_found x vm ve vc fty _ h2'.out)
  have cM := Lib.hid (message_found x vm ve vc fty _ h2'.out)
  obtain ⟨mcs, ecs, h1, h2, h3, h4, h5⟩ := h
  obtain ⟨mA, mc, rfl⟩ := h1.slice
  obtain ⟨eA, ec, rfl⟩ := h2.slice
  obtain ⟨cA, cc, rfl⟩ := h3.slice
  clear h1 h2 h3 h4 h5 hf

  by_cases q6 : fk = 6
  · subst q6
    rw [if_pos rfl] at hd
    by_cases a1 : 1 ≤ fl
    · by_cases a2 : fl ≤ 3
      · rw [decide_eq_true a1, decide_eq_true a2] at hd
        replace hd := Lib.hid hd
        have hfin : Hid (fieldB x ⟨fn, ft, fl, _, fty⟩ = enumB x fty) := Lib.hid (by rw [hd.out]; rfl)
        go_enter Tryz.func81, Tryz.ntmps81
        go_wp2_with fail
        refine cE.out.mono ?_; rintro e w1 ⟨s, A, n, c, rfl, hb1⟩
        have hb3 := Lib.hid (hb2.out.trans (hb1.mono (by simp; omega)))
        have hsz1 := hb1.size
        simp only [sizeAlloc] at hsz1
        have hb4 := Lib.hid (hb3.out.alloc (by omega) (.cells #[.string s, .slice A n c] 47))
        replace hb1 := Lib.hid hb1
        go_wp2
        go_ret
        exact ⟨ret_bool (by rw [hfin.out]), hb4.out⟩
      · rw [decide_eq_true a1, decide_eq_false a2] at hd
        replace hd := Lib.hid hd
        have hfin : Hid (fieldB x ⟨fn, ft, fl, _, fty⟩ = false) := Lib.hid (by rw [hd.out]; rfl)
        go_enter Tryz.func81, Tryz.ntmps81
        go_wp2_with fail
        refine cE.out.mono ?_; rintro e w1 ⟨s, A, n, c, rfl, hb1⟩
        have hb3 := Lib.hid (hb2.out.trans (hb1.mono (by simp; omega)))
        have hsz1 := hb1.size
        simp only [sizeAlloc] at hsz1
        have hb4 := Lib.hid (hb3.out.alloc (by omega) (.cells #[.string s, .slice A n c] 47))
        replace hb1 := Lib.hid hb1
        go_wp2
        go_ret
        exact ⟨ret_bool (by rw [hfin.out]), hb4.out⟩
    · rw [decide_eq_false a1] at hd
      replace hd := Lib.hid hd
      have hfin : Hid (fieldB x ⟨fn, ft, fl, _, fty⟩ = false) := Lib.hid (by rw [hd.out]; rfl)
      go_enter Tryz.func81, Tryz.ntmps81
      go_wp2_with fail
      refine cE.out.mono ?_; rintro e w1 ⟨s, A, n, c, rfl, hb1⟩
      have hb3 := Lib.hid (hb2.out.trans (hb1.mono (by simp; omega)))
      have hsz1 := hb1.size
      simp only [sizeAlloc] at hsz1
      have hb4 := Lib.hid (hb3.out.alloc (by omega) (.cells #[.string s, .slice A n c] 47))
      replace hb1 := Lib.hid hb1
      go_wp2
      go_ret
      exact ⟨ret_bool (by rw [hfin.out]), hb4.out⟩
  · rw [if_neg q6] at hd
    by_cases q7 : fk = 7
    · subst q7
      rw [if_pos rfl] at hd
      by_cases a1 : 1 ≤ fl
      · by_cases a2 : fl ≤ 3
        · rw [decide_eq_true a1, decide_eq_true a2] at hd
          replace hd := Lib.hid hd
          have hfin : Hid (fieldB x ⟨fn, ft, fl, _, fty⟩ = msgB x fty) := Lib.hid (by rw [hd.out]; rfl)
          go_enter Tryz.func81, Tryz.ntmps81
          go_wp2_with fail
          refine cM.out.mono ?_; rintro e w1 ⟨s, A, n, c, A2, n2, c2, rfl, hb1⟩
          have hb3 := Lib.hid (hb2.out.trans (hb1.mono (by simp; omega)))
          have hsz1 := hb1.size
          simp only [sizeAlloc] at hsz1
          have hb4 := Lib.hid (hb3.out.alloc (by omega) (.cells #[.string s, .slice A n c, .slice A2 n2 c2] 40))
          replace hb1 := Lib.hid hb1
          go_wp2
          go_ret
          exact ⟨ret_bool (by rw [hfin.out]), hb4.out⟩
        · rw [decide_eq_true a1, decide_eq_false a2] at hd
          replace hd := Lib.hid hd
          have hfin : Hid (fieldB x ⟨fn, ft, fl, _, fty⟩ = false) := Lib.hid (by rw [hd.out]; rfl)
          go_enter Tryz.func81, Tryz.ntmps81
          go_wp2_with fail
          refine cM.out.mono ?_; rintro e w1 ⟨s, A, n, c, A2, n2, c2, rfl, hb1⟩
          have hb3 := Lib.hid (hb2.out.trans (hb1.mono (by simp; omega)))
          have hsz1 := hb1.size
          simp only [sizeAlloc] at hsz1
          have hb4 := Lib.hid (hb3.out.alloc (by omega) (.cells #[.string s, .slice A n c, .slice A2 n2 c2] 40))
          replace hb1 := Lib.hid hb1
          go_wp2
          go_ret
          exact ⟨ret_bool (by rw [hfin.out]), hb4.out⟩
      · rw [decide_eq_false a1] at hd
        replace hd := Lib.hid hd
        have hfin : Hid (fieldB x ⟨fn, ft, fl, _, fty⟩ = false) := Lib.hid (by rw [hd.out]; rfl)
        go_enter Tryz.func81, Tryz.ntmps81
        go_wp2_with fail
        refine cM.out.mono ?_; rintro e w1 ⟨s, A, n, c, A2, n2, c2, rfl, hb1⟩
        have hb3 := Lib.hid (hb2.out.trans (hb1.mono (by simp; omega)))
        have hsz1 := hb1.size
        simp only [sizeAlloc] at hsz1
        have hb4 := Lib.hid (hb3.out.alloc (by omega) (.cells #[.string s, .slice A n c, .slice A2 n2 c2] 40))
        replace hb1 := Lib.hid hb1
        go_wp2
        go_ret
        exact ⟨ret_bool (by rw [hfin.out]), hb4.out⟩
    · rw [if_neg q7] at hd
      by_cases a1 : 1 ≤ fl
      · by_cases a2 : fl ≤ 3
        · rw [decide_eq_true a1, decide_eq_true a2] at hd
          by_cases b1 : 1 ≤ fk
          · rw [decide_eq_true b1] at hd
            cases b3 : (fty.toList == ([] : List UInt8)) with
            | true =>
              rw [b3] at hd
              by_cases b2 : fk < 6
              · rw [decide_eq_true b2] at hd
                replace hd := Lib.hid hd
                have hfin : Hid (fieldB x ⟨fn, ft, fl, fk, fty⟩ = true) := Lib.hid (by rw [hd.out]; rfl)
                go_enter Tryz.func81, Tryz.ntmps81
                go_wp2
                go_ret
                exact ⟨ret_bool hfin.out.symm, hb2.out⟩
              · rw [decide_eq_false b2] at hd
                replace hd := Lib.hid hd
                have hfin : Hid (fieldB x ⟨fn, ft, fl, fk, fty⟩ = false) := Lib.hid (by rw [hd.out]; rfl)
                go_enter Tryz.func81, Tryz.ntmps81
                go_wp2
                go_ret
                exact ⟨ret_bool hfin.out.symm, hb2.out⟩
            | false =>
              rw [b3] at hd
              replace hd := Lib.hid hd
              have hfin : Hid (fieldB x ⟨fn, ft, fl, fk, fty⟩ = false) := Lib.hid (by rw [hd.out]; rfl)
              go_enter Tryz.func81, Tryz.ntmps81
              go_wp2
              go_ret
              exact ⟨ret_bool hfin.out.symm, hb2.out⟩
          · rw [decide_eq_false b1] at hd
            replace hd := Lib.hid hd
            have hfin : Hid (fieldB x ⟨fn, ft, fl, fk, fty⟩ = false) := Lib.hid (by rw [hd.out]; rfl)
            go_enter Tryz.func81, Tryz.ntmps81
            go_wp2
            go_ret
            exact ⟨ret_bool hfin.out.symm, hb2.out⟩
        · rw [decide_eq_true a1, decide_eq_false a2] at hd
          replace hd := Lib.hid hd
          have hfin : Hid (fieldB x ⟨fn, ft, fl, fk, fty⟩ = false) := Lib.hid (by rw [hd.out]; rfl)
          go_enter Tryz.func81, Tryz.ntmps81
          go_wp2
          go_ret
          exact ⟨ret_bool hfin.out.symm, hb2.out⟩
      · rw [decide_eq_false a1] at hd
        replace hd := Lib.hid hd
        have hfin : Hid (fieldB x ⟨fn, ft, fl, fk, fty⟩ = false) := Lib.hid (by rw [hd.out]; rfl)
        go_enter Tryz.func81, Tryz.ntmps81
        go_wp2
        go_ret
        exact ⟨ret_bool hfin.out.symm, hb2.out⟩

end Go.Proofs.YtkpgaccgcdoijaaGreatDoor

namespace Go.Proofs.YtkpgaccgcdoijaaGreatDoor
open Go.RowKit

theorem flatMap_at {α : Type} (f : α → List Value) (s : Nat) (hs : ∀ x, (f x).length = s) : ∀ (l : List α) (i : Nat) (h : i < l.length) (j : Nat), j < s → (l.flatMap f)[i * s + j]? = (f l[i])[j]?
  | x :: r, 0, _, j, hj => by
    rw [List.flatMap_cons, List.getElem?_append_left (by rw [hs]; omega)]; simp
  | x :: r, i + 1, h, j, hj => by
    rw [List.flatMap_cons, List.getElem?_append_right (by rw [hs, Nat.add_mul]; omega), hs, show (i + 1) * s + j - s = i * s + j by rw [Nat.add_mul]; omega]
    exact flatMap_at f s hs r i (by simpa using h) j hj
theorem Rd.at_ {w w' : World} {S : Nat → Prop} {size n b o c : Nat} {xs : List Value} (h : Rd w S size (.slice (some ⟨b, o, none⟩) n c) n xs) (hn : 0 < n) (hb : ∀ k, S k → w'.heap[k]? = w.heap[k]?) (i j : Nat) (hj : i * size + j < n * size) {v : Value} (hv : xs[i * size + j]? = some v) :
    w'.cell? ⟨b, o + i * size + j, none⟩ = some v := by
  obtain ⟨b', o', c', e1, e2, e3⟩ := h.form hn
  injection e1 with e1 _ _
  injection e1 with e1
  injection e1 with e1 e4
  subst e1; subst e4
  rw [World.cell?_of_block (w := w) (hb b e2), Nat.add_assoc, e3 _ hj, hv]

theorem grown_above {w wr w2 : World} {row : Option Nat} {g : Nat} (h : w.grownBy wr row) (h2 : wr.grownBy w2 (some g)) (hg : w.heap.size ≤ g) : w.grownBy w2 row :=
  ⟨h2.os.trans h.os, h2.tape.trans h.tape, h2.output.trans h.output, Nat.le_trans h.size h2.size, fun k hk hne => (h2.block k (Nat.lt_of_lt_of_le hk h.size) (by intro e; injection e with e; omega)).trans (h.block k hk hne)⟩

/-- What stands while a part of a schema is checked. -/
structure Ck (T : TypeId) (w : World) (b n : Nat) (A : List ByteArray) (cs cm : Array Value) (wr : World) : Prop where
  grown : w.grownBy wr (some b)
  all : KSet wr 9 4 b n (A.map sLit)
  s : wr.heap[w.heap.size]? = some (.cells cs 26 (0, 0))
  m : wr.heap[w.heap.size + 1]? = some (.cells cm T (0, 0))
  size : w.heap.size + 2 ≤ wr.heap.size
theorem Ck.turn {T : TypeId} {w : World} {b n : Nat} {A : List ByteArray} {cs cm : Array Value} {wr w2 : World} {g : Nat} (h : Ck T w b n A cs cm wr) (hb : b < w.heap.size) (h2 : wr.grownBy w2 (some g)) (hg : w.heap.size + 2 ≤ g) : Ck T w b n A cs cm w2 := by
  have hs := h.size
  refine ⟨grown_above h.grown h2 (by omega), h.all.kept (h2.block b (by omega) ?_), (h2.block _ (by omega) ?_).trans h.s, (h2.block _ (by omega) ?_).trans h.m, Nat.le_trans hs h2.size⟩
  all_goals (intro e; injection e with e; omega)
theorem Ck.below {T : TypeId} {w : World} {b n : Nat} {A : List ByteArray} {cs cm : Array Value} {wr w2 : World} (h : Ck T w b n A cs cm wr) (hb : b < w.heap.size) (h2 : Below wr.heap.size wr w2) : Ck T w b n A cs cm w2 :=
  h.turn hb (grown_of_belowB h2 (some wr.heap.size)) h.size
theorem Ck.alloc {T : TypeId} {w : World} {b n : Nat} {A : List ByteArray} {cs cm : Array Value} {wr : World} (h : Ck T w b n A cs cm wr) (hb : b < w.heap.size) (o : Obj) : Ck T w b n A cs cm (wr.alloc o) :=
  h.below hb ((Below.refl _ wr).alloc (Nat.le_refl _) o)
theorem Ck.src {T : TypeId} {w : World} {b n : Nat} {A : List ByteArray} {cs cm : Array Value} {wr : World} (h : Ck T w b n A cs cm wr) {B0 : Nat} (h0 : B0 ≤ b) (hb : b < w.heap.size) : ∀ k, k < B0 → wr.heap[k]? = w.heap[k]? :=
  fun k hk => h.grown.block k (by omega) (by intro e; injection e with e; omega)

theorem iLit_mem {T : List Int} {n : Int} : iLit n ∈ T.map iLit ↔ T.contains n = true := by
  simp only [List.mem_map, List.contains_iff_mem, iLit]
  constructor
  · rintro ⟨a, ha, h⟩
    injection h with _ h
    exact h ▸ ha
  · exact fun h => ⟨n, h, rfl⟩

def resvP : List Int → List Int → Option (List Int)
  | [], T => some T
  | n :: r, T => if tagB n && !T.contains n then resvP r (n :: T) else none
def fldsP (x : SchemaD) : List FieldD → List ByteArray → List Int → Int
  | [], _, _ => 0
  | f :: r, F, T => if !takesB F f.name then 6 else if !tagB f.tag || T.contains f.tag then 7 else if !fieldB x f then 8 else fldsP x r (takesN F f.name) (f.tag :: T)
def msgC (x : SchemaD) (A : List ByteArray) (m : MessageD) : Int :=
  if !takesB A m.name then 6 else if 16 < m.fields.length ∨ 32 < m.reserved.length then 4 else match resvP m.reserved [] with | none => 7 | some T => fldsP x m.fields [] T

end Go.Proofs.YtkpgaccgcdoijaaGreatDoor

namespace Go.Proofs.YtkpgaccgcdoijaaGreatDoor
open Go.RowKit

/-- check.message's post. -/
def MsgChecked (x : SchemaD) (A : List ByteArray) (m : MessageD) (b n : Nat) (w : World) (e : Ending) (w' : World) : Prop :=
  e = .returned (.int .i64 (msgC x A m)) ∧ KSet w' 9 4 b n ((takesN A m.name).map sLit) ∧ w.grownBy w' (some b)

set_option maxHeartbeats 16000000 in
set_option maxRecDepth 100000 in
theorem message_checked (x : SchemaD) (vm ve vc : Value) (A : List ByteArray) (m : MessageD) (vf vr : Value) (b n B0 : Nat) (w : World) (h : SchemaRd w (fun k => k < B0) x vm ve vc) (hr1 : Rd w (fun k => k < B0) 5 vf m.fields.length (fieldsCells m.fields))
    (hr2 : Rd w (fun k => k < B0) 1 vr m.reserved.length (intsCells m.reserved)) (hT : Tabs w) (hT0 : Tops B0) (hb0 : B0 ≤ b) (hK : KSet w 9 4 b n (A.map sLit)) (hn : n < 100000) (hm : m.Fit) :
    Calls Tryz.prog 49 #[.agg #[.string x.name, vm, ve, vc], .map (some b), .agg #[.string m.name, vf, vr]] w (MsgChecked x A m b (n + 1) w) := by
  have hbw := hK.lt
  have hd : msgC x A m = if !takesB A m.name then 6 else if 16 < m.fields.length ∨ 32 < m.reserved.length then 4 else match resvP m.reserved [] with | none => 7 | some T => fldsP x m.fields [] T := rfl
  obtain ⟨nm, fs, rs⟩ := m
  simp only at hr1 hr2 hd ⊢
  have hnm := hm.name
  have hmf := hm.fields
  have hmr := hm.reserved
  simp only at hnm hmf hmr
  unfold MsgChecked
  simp only
  obtain ⟨fA, fc, rfl⟩ := hr1.slice
  obtain ⟨rA, rc, rfl⟩ := hr2.slice
  have hS := Lib.hid h
  obtain ⟨mcs, ecs, h1, h2, h3, h4, h5⟩ := h
  obtain ⟨mA, mc, rfl⟩ := h1.slice
  obtain ⟨eA, ec, rfl⟩ := h2.slice
  obtain ⟨cA, cc, rfl⟩ := h3.slice
  clear h1 h2 h3 h4 h5 hm
  have hl1 := hr1.len
  have hl2 := hr2.len
  unfold maxLen at hl1 hl2
  have hmk := @run_makeMap Tryz.prog
  have cT := taken_calls b n A nm
  have hk0 : ∀ cs cm, Ck 40 w b n A cs cm ((w.alloc (.cells cs 26)).alloc (.cells cm 40)) := fun cs cm =>
    ⟨grown_trans (World.grownBy_alloc w _ _) (World.grownBy_alloc _ _ _), (hK.kept (Below.heap_alloc _ _ _ hbw)).kept (Below.heap_alloc _ _ _ (by simp; omega)),
      (Below.heap_alloc _ _ _ (by simp)).trans (heap_alloc_new w _), by have := heap_alloc_new (w.alloc (.cells cs 26)) (.cells cm 40); rwa [sizeAlloc] at this, by simp⟩
  have hk1 := hk0 #[.string x.name, .slice mA x.messages.length mc, .slice eA x.enums.length ec, .slice cA x.methods.length cc] #[.string nm, .slice fA fs.length fc, .slice rA rs.length rc]
  have hT1 := Lib.hid (hT.below (((Below.refl w.heap.size w).alloc (Nat.le_refl _) (.cells #[.string x.name, .slice mA x.messages.length mc, .slice eA x.enums.length ec, .slice cA x.methods.length cc] 26)).alloc (by simp) (.cells #[.string nm, .slice fA fs.length fc, .slice rA rs.length rc] 40)))
  have cT1 := Lib.hid (cT _ hT1.out hnm (by omega) hk1.all)
  clear hk0 cT
  replace hk1 := Lib.hid hk1; replace hr1 := Lib.hid hr1; replace hr2 := Lib.hid hr2; replace hd := Lib.hid hd; replace hmf := Lib.hid hmf; replace hmr := Lib.hid hmr; replace hT := Lib.hid hT; replace hK := Lib.hid hK
  have hN : takesN A nm = if takesB A nm then nm :: A else A := rfl
  replace hN := Lib.hid hN
  go_enter Tryz.func49, Tryz.ntmps49
  go_wp2_with fail
  refine cT1.out.mono ?_; rintro e w1 ⟨rfl, hks1, hg1⟩
  have hsz0 := hg1.size
  simp only [sizeAlloc] at hsz0
  have hk2 : Ck 40 w b (n + 1) (takesN A nm) #[.string x.name, .slice mA x.messages.length mc, .slice eA x.enums.length ec, .slice cA x.methods.length cc] #[.string nm, .slice fA fs.length fc, .slice rA rs.length rc] w1 :=
    ⟨grown_trans hk1.out.grown hg1, hks1, (hg1.block _ (by simp; omega) (by intro e; injection e with e; omega)).trans hk1.out.s, (hg1.block _ (by simp) (by intro e; injection e with e; omega)).trans hk1.out.m, by omega⟩
  have hmb := Lib.hid hk2.m
  have hc0 := blk_cell hk2.m 0
  have hc1 := blk_cell hk2.m 1
  have hc2 := blk_cell hk2.m 2
  simp only [List.getElem?_toArray, List.getElem?_cons_succ, List.getElem?_cons_zero] at hc0 hc1 hc2
  replace hk2 := Lib.hid hk2; replace hks1 := Lib.hid hks1; replace hg1 := Lib.hid hg1
  clear cT1 hk1
  cases htk : takesB A nm with
  | false =>
    rw [htk] at hd
    have hfin : Hid (msgC x A ⟨nm, fs, rs⟩ = 6) := Lib.hid (by rw [hd.out]; rfl)
    go_wp2
    go_ret
    exact ⟨ret_int hfin.out.symm, hks1.out, hk2.out.grown⟩
  | true =>
    have hd2 : Hid (msgC x A ⟨nm, fs, rs⟩ = if 16 < fs.length ∨ 32 < rs.length then 4 else match resvP rs [] with | none => 7 | some T => fldsP x fs [] T) := Lib.hid (by rw [hd.out, htk]; rfl)
    replace htk := Lib.hid htk
    clear hd
    by_cases g1 : 16 < fs.length
    · have g1' : (16 : Int) < (fs.length : Int) := by omega
      have hfin : Hid (msgC x A ⟨nm, fs, rs⟩ = 4) := Lib.hid (by rw [hd2.out, if_pos (Or.inl g1)])
      clear hd2
      go_wp2
      go_ret
      exact ⟨ret_int hfin.out.symm, hks1.out, hk2.out.grown⟩
    · have g1' : ¬ (16 : Int) < (fs.length : Int) := by omega
      by_cases g2 : 32 < rs.length
      · have g2' : (32 : Int) < (rs.length : Int) := by omega
        have hfin : Hid (msgC x A ⟨nm, fs, rs⟩ = 4) := Lib.hid (by rw [hd2.out, if_pos (Or.inr g2)])
        clear hd2
        go_wp2
        go_ret
        exact ⟨ret_int hfin.out.symm, hks1.out, hk2.out.grown⟩
      · have g2' : ¬ (32 : Int) < (rs.length : Int) := by omega
        have hd3 : Hid (msgC x A ⟨nm, fs, rs⟩ = match resvP rs [] with | none => 7 | some T => fldsP x fs [] T) := Lib.hid (by rw [hd2.out, if_neg (by omega)])
        clear hd2
        have hm0 := Lib.hid (KSet.made w1 3 4)
        have hk3 := hk2.out.alloc hbw (.map #[] 0)
        have hcA2 := blk_cell hk3.m 2
        simp only [List.getElem?_toArray, List.getElem?_cons_succ, List.getElem?_cons_zero] at hcA2
        replace hk3 := Lib.hid hk3
        have hbt := hk2.out.size
        go_wp2
        go_loopw [34] (fun i wr => ∃ (k : Nat) (T : List Int), k ≤ rs.length ∧ i = .int .i64 k ∧ Ck 40 w b (n + 1) (takesN A nm) #[.string x.name, .slice mA x.messages.length mc, .slice eA x.enums.length ec, .slice cA x.methods.length cc] #[.string nm, .slice fA fs.length fc, .slice rA rs.length rc] wr ∧
          KSet wr 3 4 w1.heap.size k (T.map iLit) ∧ resvP (rs.drop k) T = resvP rs []) (fun i _ => rs.length - (intOf i).toNat)
        case atStart => exact ⟨0, [], Nat.zero_le _, rfl, hk3.out, hm0.out, rfl⟩
        case round =>
          obtain ⟨k, T, hk, rfl, hck, hkt, hrv⟩ := hrel
          by_cases hlt : k < rs.length
          · have hlt' : (k : Int) < (rs.length : Int) := by omega
            obtain ⟨rb, ro, rc', hv, hSb, _⟩ := hr2.out.form (by omega)
            injection hv with hv1 hv2 hv3
            subst hv1
            subst hv3
            have hcr : wr.cell? ⟨rb, ro + k, none⟩ = some (.int .i64 rs[k]) := by
              have := hr2.out.at_ (by omega) (hck.src hb0 hbw) k 0 (by omega) (v := .int .i64 rs[k]) (by simp [intsCells, List.getElem?_eq_getElem hlt])
              simpa using this
            have hst : Hid (resvP rs [] = if tagB rs[k] && !T.contains rs[k] then resvP (rs.drop (k + 1)) (rs[k] :: T) else none) := Lib.hid (by rw [← hrv, List.drop_eq_getElem_cons hlt]; rfl)
            have hfit := hmr.out rs[k] (List.getElem_mem hlt)
            generalize rs[k] = t at hcr hst hfit
            have cG := fun W => tag_calls t W hfit
            generalize tagB t = tq at hst cG
            obtain ⟨qb, hlook, hqb⟩ := hkt.look (Go.Maps.int_keyed Tryz.underlying3) Tryz.underlying124 Tryz.underlying4 (infoB wr) (keyOf_i64 hfit.1 hfit.2)
            replace hqb := Lib.hid (hqb.trans iLit_mem)
            obtain ⟨wk, rfl⟩ : ∃ wo : World, wo = wr := ⟨_, rfl⟩
            replace hck := Lib.hid hck; replace hkt := Lib.hid hkt; replace hrv := Lib.hid hrv; replace cG := Lib.hid cG
            cases tq with
            | false =>
              have hfin : Hid (msgC x A ⟨nm, fs, rs⟩ = 7) := Lib.hid (by rw [hd3.out, hst.out]; rfl)
              go_wp2_with fail
              refine (cG.out _).mono ?_; rintro e wk ⟨rfl, rfl⟩
              go_wp2
              go_ret
              exact ⟨ret_int hfin.out.symm, hck.out.all, hck.out.grown⟩
            | true =>
              cases qb with
              | true =>
                have hfin : Hid (msgC x A ⟨nm, fs, rs⟩ = 7) := Lib.hid (by rw [hd3.out, hst.out, hqb.out.1 rfl]; rfl)
                clear hqb
                go_wp2_with fail
                refine (cG.out _).mono ?_; rintro e wk ⟨rfl, rfl⟩
                go_wp2
                go_ret
                exact ⟨ret_int hfin.out.symm, hck.out.all, hck.out.grown⟩
              | false =>
                have hst2 : Hid (resvP (rs.drop (k + 1)) (t :: T) = resvP rs []) := Lib.hid (by
                  rw [hst.out]
                  cases hh : T.contains t
                  · rfl
                  · have := hqb.out.2 hh; cases this)
                clear hqb hst
                go_wp2_with fail
                refine (cG.out _).mono ?_; rintro e wk ⟨rfl, rfl⟩
                go_wp2_with (at_mapUpdate; refine wpList_put_true rfl _ _ _ 124 rfl 3 4 (Go.Maps.int_keyed Tryz.underlying3) Tryz.underlying124 Tryz.underlying4 w1.heap.size k _ rfl hkt.out (by unfold maxLen; omega) (.int .i64 t) (iLit t) rfl rfl (keyOf_i64 hfit.1 hfit.2) ?_; intro w2 hks2 hgr2)
                have hck2 := Lib.hid (hck.out.turn hbw hgr2 hbt)
                replace hks2 := Lib.hid hks2
                go_roundw
                case rel => exact ⟨k + 1, t :: T, by omega, by go_num, hck2.out, hks2.out, hst2.out⟩
                case measure => simp [intOf]; omega
          · have hke : k = rs.length := by omega
            subst hke
            rw [List.drop_length] at hrv
            have hd4 : Hid (msgC x A ⟨nm, fs, rs⟩ = fldsP x fs [] T) := Lib.hid (by rw [hd3.out, ← hrv]; rfl)
            obtain ⟨w2, rfl⟩ : ∃ wo : World, wo = wr := ⟨_, rfl⟩
            have hm1 := Lib.hid (KSet.made w2 9 4)
            have hck3 := hck.alloc hbw (.map #[] 0)
            have hcB1 := blk_cell hck3.m 1
            simp only [List.getElem?_toArray, List.getElem?_cons_succ, List.getElem?_cons_zero] at hcB1
            have hkt3 := Lib.hid (hkt.kept (Below.heap_alloc w2 (.map #[] 0) _ hkt.lt))
            have htf := hkt.lt
            have hcm1 := blk_cell hck.m 1
            simp only [List.getElem?_toArray, List.getElem?_cons_succ, List.getElem?_cons_zero] at hcm1
            replace hck3 := Lib.hid hck3; replace hck := Lib.hid hck; replace hkt := Lib.hid hkt; replace hrv := Lib.hid hrv
            clear hd3 hcA2 hm0 hk3
            go_wp2
            go_loopw [53] (fun i wr => ∃ (k : Nat) (F : List ByteArray) (T' : List Int), k ≤ fs.length ∧ i = .int .i64 k ∧ Ck 40 w b (n + 1) (takesN A nm) #[.string x.name, .slice mA x.messages.length mc, .slice eA x.enums.length ec, .slice cA x.methods.length cc] #[.string nm, .slice fA fs.length fc, .slice rA rs.length rc] wr ∧
              KSet wr 3 4 w1.heap.size (rs.length + k) (T'.map iLit) ∧ KSet wr 9 4 w2.heap.size k (F.map sLit) ∧ fldsP x (fs.drop k) F T' = fldsP x fs [] T) (fun i _ => fs.length - (intOf i).toNat)
            case atStart => exact ⟨0, [], T, Nat.zero_le _, rfl, hck3.out, hkt3.out, hm1.out, rfl⟩
            case round =>
              obtain ⟨k, F, T', hk, rfl, hck, hkt, hkf, hfl⟩ := hrel
              by_cases hlt : k < fs.length
              · have hlt' : (k : Int) < (fs.length : Int) := by omega
                obtain ⟨fb, fo, fc', hv, hSb, _⟩ := hr1.out.form (by omega)
                injection hv with hv1 hv2 hv3
                subst hv1
                subst hv3
                have hat : ∀ j v, j < 5 → (fieldCells fs[k])[j]? = some v → wr.cell? ⟨fb, fo + k * 5 + j, none⟩ = some v := fun j v hj hv =>
                  hr1.out.at_ (by omega) (hck.src hb0 hbw) k j (by omega) ((flatMap_at fieldCells 5 (fun _ => rfl) fs k hlt j hj).trans hv)
                have hst : Hid (fldsP x fs [] T = if !takesB F fs[k].name then 6 else if !tagB fs[k].tag || T'.contains fs[k].tag then 7 else if !fieldB x fs[k] then 8 else fldsP x (fs.drop (k + 1)) (takesN F fs[k].name) (fs[k].tag :: T')) := Lib.hid (by rw [← hfl, List.drop_eq_getElem_cons hlt]; rfl)
                have hfit := hmf.out fs[k] (List.getElem_mem hlt)
                generalize fs[k] = f at hat hst hfit
                have hfo := fun W hW => field_ok x (.slice mA x.messages.length mc) (.slice eA x.enums.length ec) (.slice cA x.methods.length cc) f W hW hfit
                generalize fieldB x f = fq at hst hfo
                obtain ⟨fn, ft, fl, fk, fty⟩ := f
                have hc0 := hat 0 _ (by decide) rfl
                have hc1 := hat 1 _ (by decide) rfl
                have hc2 := hat 2 _ (by decide) rfl
                have hc3 := hat 3 _ (by decide) rfl
                have hc4 := hat 4 _ (by decide) rfl
                simp only [Nat.add_zero] at hc0 hc1 hc2 hc3 hc4
                have hfn := hfit.name
                have hftag := hfit.tag
                simp only at hst hfn hftag hfo
                clear hat hfit hSb
                obtain ⟨wk, rfl⟩ : ∃ wo : World, wo = wr := ⟨_, rfl⟩
                have hszk := hck.size
                have hckA := hck.alloc hbw (.cells #[.string fn, .int .i64 ft, .int .i64 fl, .int .i64 fk, .string fty] 44)
                have hTA := hT.out.grown hckA.grown (hT0.mono hb0) (by omega)
                have hkfA := hkf.kept (Below.heap_alloc wk (.cells #[.string fn, .int .i64 ft, .int .i64 fl, .int .i64 fk, .string fty] 44) _ hkf.lt)
                have hktA := hkt.kept (Below.heap_alloc wk (.cells #[.string fn, .int .i64 ft, .int .i64 fl, .int .i64 fk, .string fty] 44) _ hkt.lt)
                have hbx := heap_alloc_new wk (.cells #[.string fn, .int .i64 ft, .int .i64 fl, .int .i64 fk, .string fty] 44)
                have hklt := hkf.lt
                have cT := Lib.hid (taken_calls w2.heap.size k F fn _ hTA hfn (by omega) hkfA)
                replace hckA := Lib.hid hckA; replace hTA := Lib.hid hTA; replace hkfA := Lib.hid hkfA; replace hktA := Lib.hid hktA; replace hbx := Lib.hid hbx; replace hck := Lib.hid hck; replace hkt := Lib.hid hkt; replace hkf := Lib.hid hkf; replace hfl := Lib.hid hfl; replace hfo := Lib.hid hfo
                go_wp2_with fail
                refine cT.out.mono ?_; rintro e w3 ⟨rfl, hkf3, hg3⟩
                have hck3 := hckA.out.turn hbw hg3 (by omega)
                have hkt3 := hktA.out.kept (hg3.block _ (by simp; omega) (by intro e; injection e with e; omega))
                have hbx3 := (hg3.block wk.heap.size (by simp) (by intro e; injection e with e; omega)).trans hbx.out
                have hsz3 := hg3.size
                simp only [sizeAlloc] at hsz3
                have hsb3 := hck3.s
                have hS3 := hS.out.kept (hck3.src hb0 hbw) (S' := fun k => k < w3.heap.size) (fun k hk => by omega)
                have cF := Lib.hid (hfo.out _ hS3)
                have he0 := blk_cell hbx3 0
                have he1 := blk_cell hbx3 1
                have he2 := blk_cell hbx3 2
                have he3 := blk_cell hbx3 3
                have he4 := blk_cell hbx3 4
                have hs0 := blk_cell hsb3 0
                have hs1 := blk_cell hsb3 1
                have hs2 := blk_cell hsb3 2
                have hs3 := blk_cell hsb3 3
                simp only [List.getElem?_toArray, List.getElem?_cons_succ, List.getElem?_cons_zero] at he0 he1 he2 he3 he4 hs0 hs1 hs2 hs3
                obtain ⟨qb, hlook, hqb⟩ := hkt3.look (Go.Maps.int_keyed Tryz.underlying3) Tryz.underlying124 Tryz.underlying4 (infoB w3) (keyOf_i64 hftag.1 hftag.2)
                replace hqb := Lib.hid (hqb.trans iLit_mem)
                have cG := fun W => tag_calls ft W hftag
                generalize tagB ft = tq at hst cG
                generalize takesN F fn = F2 at hkf3 hst
                replace hck3 := Lib.hid hck3; replace hkt3 := Lib.hid hkt3; replace hkf3 := Lib.hid hkf3; replace hg3 := Lib.hid hg3; replace hbx3 := Lib.hid hbx3; replace hsb3 := Lib.hid hsb3; replace hS3 := Lib.hid hS3; replace cG := Lib.hid cG
                clear cT hckA hTA hkfA hktA hbx hck hkt hkf hfo
                generalize takesB F fn = tk at hst ⊢
                cases tk with
                | false =>
                  have hfin : Hid (msgC x A ⟨nm, fs, rs⟩ = 6) := Lib.hid (by rw [hd4.out, hst.out]; rfl)
                  clear hst hqb
                  go_wp2
                  go_ret
                  exact ⟨ret_int hfin.out.symm, hck3.out.all, hck3.out.grown⟩
                | true =>
                  cases tq with
                  | false =>
                    have hfin : Hid (msgC x A ⟨nm, fs, rs⟩ = 7) := Lib.hid (by rw [hd4.out, hst.out]; rfl)
                    clear hst hqb
                    go_wp2_with fail
                    refine (cG.out _).mono ?_; rintro e w3 ⟨rfl, rfl⟩
                    go_wp2
                    go_ret
                    exact ⟨ret_int hfin.out.symm, hck3.out.all, hck3.out.grown⟩
                  | true =>
                    cases qb with
                    | true =>
                      have hfin : Hid (msgC x A ⟨nm, fs, rs⟩ = 7) := Lib.hid (by rw [hd4.out, hst.out, hqb.out.1 rfl]; rfl)
                      clear hst hqb
                      go_wp2_with fail
                      refine (cG.out _).mono ?_; rintro e w3 ⟨rfl, rfl⟩
                      go_wp2
                      go_ret
                      exact ⟨ret_int hfin.out.symm, hck3.out.all, hck3.out.grown⟩
                    | false =>
                      have hst2 : Hid (fldsP x fs [] T = if !fq then 8 else fldsP x (fs.drop (k + 1)) F2 (ft :: T')) := Lib.hid (by
                        rw [hst.out]
                        cases hh : T'.contains ft
                        · rfl
                        · have := hqb.out.2 hh; cases this)
                      clear hqb hst
                      go_wp2_with fail
                      refine (cG.out _).mono ?_; rintro e w3 ⟨rfl, rfl⟩
                      go_wp2_with fail
                      refine cF.out.mono ?_; rintro e w4 ⟨rfl, hb4⟩
                      have hck4 := hck3.out.below hbw hb4
                      have hkt4 := hkt3.out.kept (hb4.block _ hkt3.out.lt)
                      have hkf4 := hkf3.out.kept (hb4.block _ hkf3.out.lt)
                      have hbx4 := (hb4.block wk.heap.size (by omega)).trans hbx3.out
                      have hd0 := blk_cell hbx4 0
                      have hd1 := blk_cell hbx4 1
                      simp only [List.getElem?_toArray, List.getElem?_cons_succ, List.getElem?_cons_zero] at hd0 hd1
                      replace hck4 := Lib.hid hck4; replace hkt4 := Lib.hid hkt4; replace hkf4 := Lib.hid hkf4; replace hbx4 := Lib.hid hbx4; replace hb4 := Lib.hid hb4
                      cases fq with
                      | false =>
                        have hfin : Hid (msgC x A ⟨nm, fs, rs⟩ = 8) := Lib.hid (by rw [hd4.out, hst2.out]; rfl)
                        clear hst2
                        go_wp2
                        go_ret
                        exact ⟨ret_int hfin.out.symm, hck4.out.all, hck4.out.grown⟩
                      | true =>
                        have hst3 : Hid (fldsP x (fs.drop (k + 1)) F2 (ft :: T') = fldsP x fs [] T) := Lib.hid (by rw [hst2.out]; rfl)
                        clear hst2
                        go_wp2_with (at_mapUpdate; refine wpList_put_true rfl _ _ _ 124 rfl 3 4 (Go.Maps.int_keyed Tryz.underlying3) Tryz.underlying124 Tryz.underlying4 w1.heap.size (rs.length + k) _ rfl hkt4.out (by unfold maxLen; omega) (.int .i64 ft) (iLit ft) rfl rfl (keyOf_i64 hftag.1 hftag.2) ?_; intro w5 hks5 hgr5)
                        have hck5 := Lib.hid (hck4.out.turn hbw hgr5 hbt)
                        have hkf5 := Lib.hid (hkf4.out.kept (hgr5.block _ hkf4.out.lt (by intro e; injection e with e; omega)))
                        replace hks5 := Lib.hid hks5
                        go_roundw
                        case rel => exact ⟨k + 1, F2, ft :: T', by omega, by go_num, hck5.out, hks5.out, hkf5.out, hst3.out⟩
                        case measure => simp [intOf]; omega
              · have hke : k = fs.length := by omega
                subst hke
                rw [List.drop_length] at hfl
                have hfin : Hid (msgC x A ⟨nm, fs, rs⟩ = 0) := Lib.hid (by rw [hd4.out, ← hfl]; rfl)
                replace hck := Lib.hid hck; replace hkt := Lib.hid hkt; replace hkf := Lib.hid hkf; replace hfl := Lib.hid hfl
                obtain ⟨wk, rfl⟩ : ∃ wo : World, wo = wr := ⟨_, rfl⟩
                go_wp2
                go_ret
                exact ⟨ret_int hfin.out.symm, hck.out.all, hck.out.grown⟩

end Go.Proofs.YtkpgaccgcdoijaaGreatDoor

namespace Go.Proofs.YtkpgaccgcdoijaaGreatDoor
open Go.RowKit

/-- What stands while an enumeration is checked. -/
structure CkE (w : World) (b n : Nat) (A : List ByteArray) (cm : Array Value) (wr : World) : Prop where
  grown : w.grownBy wr (some b)
  all : KSet wr 9 4 b n (A.map sLit)
  m : wr.heap[w.heap.size]? = some (.cells cm 47 (0, 0))
  size : w.heap.size + 1 ≤ wr.heap.size
theorem CkE.turn {w : World} {b n : Nat} {A : List ByteArray} {cm : Array Value} {wr w2 : World} {g : Nat} (h : CkE w b n A cm wr) (hb : b < w.heap.size) (h2 : wr.grownBy w2 (some g)) (hg : w.heap.size + 1 ≤ g) : CkE w b n A cm w2 := by
  have hs := h.size
  refine ⟨grown_above h.grown h2 (by omega), h.all.kept (h2.block b (by omega) ?_), (h2.block _ (by omega) ?_).trans h.m, Nat.le_trans hs h2.size⟩
  all_goals (intro e; injection e with e; omega)
theorem CkE.alloc {w : World} {b n : Nat} {A : List ByteArray} {cm : Array Value} {wr : World} (h : CkE w b n A cm wr) (hb : b < w.heap.size) (o : Obj) : CkE w b n A cm (wr.alloc o) :=
  h.turn hb (grown_of_belowB ((Below.refl _ wr).alloc (Nat.le_refl _) o) (some wr.heap.size)) h.size
theorem CkE.src {w : World} {b n : Nat} {A : List ByteArray} {cm : Array Value} {wr : World} (h : CkE w b n A cm wr) {B0 : Nat} (h0 : B0 ≤ b) (hb : b < w.heap.size) : ∀ k, k < B0 → wr.heap[k]? = w.heap[k]? :=
  fun k hk => h.grown.block k (by omega) (by intro e; injection e with e; omega)

def valsP : List NamedD → List ByteArray → List Int → Int
  | [], _, _ => 0
  | v :: r, F, T => if !takesB F v.name then 6 else if v.n < 0 ∨ 2147483647 < v.n ∨ T.contains v.n = true then 11 else valsP r (takesN F v.name) (v.n :: T)
def zeroB (l : List NamedD) : Bool := l.any (fun v => v.n == 0)
def enumC (A : List ByteArray) (m : EnumD) : Int :=
  if !takesB A m.name then 6 else if 16 < m.values.length then 4 else if !zeroB m.values then 12 else valsP m.values [] []

/-- check.enum's post. -/
def EnumChecked (A : List ByteArray) (m : EnumD) (b n : Nat) (w : World) (e : Ending) (w' : World) : Prop :=
  e = .returned (.int .i64 (enumC A m)) ∧ KSet w' 9 4 b n ((takesN A m.name).map sLit) ∧ w.grownBy w' (some b)

set_option maxHeartbeats 16000000 in
set_option maxRecDepth 100000 in
theorem enum_checked (A : List ByteArray) (m : EnumD) (vf : Value) (b n B0 : Nat) (w : World) (hr1 : Rd w (fun k => k < B0) 2 vf m.values.length (namedsCells m.values))
    (hT : Tabs w) (hT0 : Tops B0) (hb0 : B0 ≤ b) (hK : KSet w 9 4 b n (A.map sLit)) (hn : n < 100000) (hm : m.Fit) :
    Calls Tryz.prog 50 #[.map (some b), .agg #[.string m.name, vf]] w (EnumChecked A m b (n + 1) w) := by
  have hbw := hK.lt
  have hd : enumC A m = if !takesB A m.name then 6 else if 16 < m.values.length then 4 else if !zeroB m.values then 12 else valsP m.values [] [] := rfl
  obtain ⟨nm, fs⟩ := m
  simp only at hr1 hd ⊢
  have hnm := hm.name
  have hmf := hm.values
  simp only at hnm hmf
  unfold EnumChecked
  simp only
  obtain ⟨fA, fc, rfl⟩ := hr1.slice
  clear hm
  have hl1 := hr1.len
  unfold maxLen at hl1
  have hmk := @run_makeMap Tryz.prog
  have hk1 : CkE w b n A #[.string nm, .slice fA fs.length fc] (w.alloc (.cells #[.string nm, .slice fA fs.length fc] 47)) :=
    ⟨World.grownBy_alloc w _ _, hK.kept (Below.heap_alloc _ _ _ hbw), heap_alloc_new w _, by simp⟩
  have hT1 := Lib.hid (hT.below ((Below.refl w.heap.size w).alloc (Nat.le_refl _) (.cells #[.string nm, .slice fA fs.length fc] 47)))
  have cT1 := Lib.hid (taken_calls b n A nm _ hT1.out hnm (by omega) hk1.all)
  replace hk1 := Lib.hid hk1; replace hr1 := Lib.hid hr1; replace hd := Lib.hid hd; replace hmf := Lib.hid hmf; replace hT := Lib.hid hT; replace hK := Lib.hid hK
  go_enter Tryz.func50, Tryz.ntmps50
  go_wp2_with fail
  refine cT1.out.mono ?_; rintro e w1 ⟨rfl, hks1, hg1⟩
  have hsz0 := hg1.size
  simp only [sizeAlloc] at hsz0
  have hk2 : CkE w b (n + 1) (takesN A nm) #[.string nm, .slice fA fs.length fc] w1 :=
    ⟨grown_trans hk1.out.grown hg1, hks1, (hg1.block _ (by simp) (by intro e; injection e with e; omega)).trans hk1.out.m, by omega⟩
  have hc0 := blk_cell hk2.m 0
  have hc1 := blk_cell hk2.m 1
  simp only [List.getElem?_toArray, List.getElem?_cons_succ, List.getElem?_cons_zero] at hc0 hc1
  replace hk2 := Lib.hid hk2; replace hks1 := Lib.hid hks1; replace hg1 := Lib.hid hg1
  clear cT1 hk1
  cases htk : takesB A nm with
  | false =>
    rw [htk] at hd
    have hfin : Hid (enumC A ⟨nm, fs⟩ = 6) := Lib.hid (by rw [hd.out]; rfl)
    go_wp2
    go_ret
    exact ⟨ret_int hfin.out.symm, hks1.out, hk2.out.grown⟩
  | true =>
    have hd2 : Hid (enumC A ⟨nm, fs⟩ = if 16 < fs.length then 4 else if !zeroB fs then 12 else valsP fs [] []) := Lib.hid (by rw [hd.out, htk]; rfl)
    replace htk := Lib.hid htk
    clear hd
    by_cases g1 : 16 < fs.length
    · have g1' : (16 : Int) < (fs.length : Int) := by omega
      have hfin : Hid (enumC A ⟨nm, fs⟩ = 4) := Lib.hid (by rw [hd2.out, if_pos g1])
      clear hd2
      go_wp2
      go_ret
      exact ⟨ret_int hfin.out.symm, hks1.out, hk2.out.grown⟩
    · have g1' : ¬ (16 : Int) < (fs.length : Int) := by omega
      have hd3 : Hid (enumC A ⟨nm, fs⟩ = if !zeroB fs then 12 else valsP fs [] []) := Lib.hid (by rw [hd2.out, if_neg g1])
      clear hd2
      have hbt := hk2.out.size
      go_wp2
      go_loopw [26, 5] (fun i z wr => ∃ (k : Nat) (q : Bool), k ≤ fs.length ∧ i = .int .i64 k ∧ z = .bool q ∧ CkE w b (n + 1) (takesN A nm) #[.string nm, .slice fA fs.length fc] wr ∧ zeroB fs = (q || zeroB (fs.drop k))) (fun i _ _ => fs.length - (intOf i).toNat)
      case atStart => exact ⟨0, false, Nat.zero_le _, rfl, rfl, hk2.out, rfl⟩
      case round =>
        obtain ⟨k, q, hk, rfl, rfl, hck, hz⟩ := hrel
        by_cases hlt : k < fs.length
        · have hlt' : (k : Int) < (fs.length : Int) := by omega
          obtain ⟨fb, fo, fc', hv, hSb, _⟩ := hr1.out.form (by omega)
          injection hv with hv1 hv2 hv3
          subst hv1
          subst hv3
          have hat : ∀ j v, j < 2 → (namedCells fs[k])[j]? = some v → wr.cell? ⟨fb, fo + k * 2 + j, none⟩ = some v := fun j v hj hv =>
            hr1.out.at_ (by omega) (hck.src hb0 hbw) k j (by omega) ((flatMap_at namedCells 2 (fun _ => rfl) fs k hlt j hj).trans hv)
          have hst : Hid (zeroB fs = (q || (fs[k].n == 0 || zeroB (fs.drop (k + 1))))) := Lib.hid (by rw [hz, List.drop_eq_getElem_cons hlt]; rfl)
          have hc20 := hat 0 _ (by decide) rfl
          have hc21 := hat 1 _ (by decide) rfl
          simp only [Nat.add_zero] at hc20 hc21
          generalize fs[k].n = t at hc21 hst
          generalize fs[k].name = tn at hc20
          clear hat hSb
          obtain ⟨wk, rfl⟩ : ∃ wo : World, wo = wr := ⟨_, rfl⟩
          have hckA := Lib.hid (hck.alloc hbw (.cells #[.string tn, .int .i64 t] 49))
          replace hck := Lib.hid hck; replace hz := Lib.hid hz
          cases q with
          | true =>
            have hfin : Hid (zeroB fs = (true || zeroB (fs.drop (k + 1)))) := Lib.hid (by rw [hst.out]; simp)
            clear hst
            go_wp2
            go_roundw
            case rel => exact ⟨k + 1, true, by omega, by go_num, rfl, hckA.out, hfin.out⟩
            case measure => simp [intOf]; omega
          | false =>
            cases hq : ((t : Int) == 0) with
            | true =>
              have hfin : Hid (zeroB fs = (true || zeroB (fs.drop (k + 1)))) := Lib.hid (by rw [hst.out, hq]; simp)
              clear hst
              go_wp2
              go_roundw
              case rel => exact ⟨k + 1, true, by omega, by go_num, rfl, hckA.out, hfin.out⟩
              case measure => simp [intOf]; omega
            | false =>
              have hfin : Hid (zeroB fs = (false || zeroB (fs.drop (k + 1)))) := Lib.hid (by rw [hst.out, hq]; simp)
              clear hst
              go_wp2
              go_roundw
              case rel => exact ⟨k + 1, false, by omega, by go_num, rfl, hckA.out, hfin.out⟩
              case measure => simp [intOf]; omega
        · have hke : k = fs.length := by omega
          subst hke
          rw [List.drop_length] at hz
          obtain ⟨w2, rfl⟩ : ∃ wo : World, wo = wr := ⟨_, rfl⟩
          have hz2 : Hid (zeroB fs = q) := Lib.hid (by rw [hz]; simp [zeroB])
          replace hz := Lib.hid hz
          cases q with
          | false =>
            have hfin : Hid (enumC A ⟨nm, fs⟩ = 12) := Lib.hid (by rw [hd3.out, hz2.out]; rfl)
            replace hck := Lib.hid hck
            go_wp2
            go_ret
            exact ⟨ret_int hfin.out.symm, hck.out.all, hck.out.grown⟩
          | true =>
            have hd4 : Hid (enumC A ⟨nm, fs⟩ = valsP fs [] []) := Lib.hid (by rw [hd3.out, hz2.out]; rfl)
            clear hd3
            have hck3 := (hck.alloc hbw (.map #[] 0)).alloc hbw (.map #[] 0)
            have hcB1 := blk_cell hck3.m 1
            simp only [List.getElem?_toArray, List.getElem?_cons_succ, List.getElem?_cons_zero] at hcB1
            have hm1 := Lib.hid ((KSet.made w2 9 4).kept (Below.heap_alloc _ (.map #[] 0) _ (by simp)))
            have hm2 := KSet.made (w2.alloc (.map #[] 0)) 3 4
            rw [sizeAlloc] at hm2
            replace hm2 := Lib.hid hm2
            have hszw := hck.size
            replace hck3 := Lib.hid hck3; replace hck := Lib.hid hck
            go_wp2
            go_loopw [44] (fun i wr => ∃ (k : Nat) (F : List ByteArray) (T' : List Int), k ≤ fs.length ∧ i = .int .i64 k ∧ CkE w b (n + 1) (takesN A nm) #[.string nm, .slice fA fs.length fc] wr ∧
              KSet wr 3 4 (w2.heap.size + 1) k (T'.map iLit) ∧ KSet wr 9 4 w2.heap.size k (F.map sLit) ∧ valsP (fs.drop k) F T' = valsP fs [] []) (fun i _ => fs.length - (intOf i).toNat)
            case atStart => exact ⟨0, [], [], Nat.zero_le _, rfl, hck3.out, hm2.out, hm1.out, rfl⟩
            case round =>
              obtain ⟨k, F, T', hk, rfl, hck, hkt, hkf, hfl⟩ := hrel
              by_cases hlt : k < fs.length
              · have hlt' : (k : Int) < (fs.length : Int) := by omega
                obtain ⟨fb, fo, fc', hv, hSb, _⟩ := hr1.out.form (by omega)
                injection hv with hv1 hv2 hv3
                subst hv1
                subst hv3
                have hat : ∀ j v, j < 2 → (namedCells fs[k])[j]? = some v → wr.cell? ⟨fb, fo + k * 2 + j, none⟩ = some v := fun j v hj hv =>
                  hr1.out.at_ (by omega) (hck.src hb0 hbw) k j (by omega) ((flatMap_at namedCells 2 (fun _ => rfl) fs k hlt j hj).trans hv)
                have hst : Hid (valsP fs [] [] = if !takesB F fs[k].name then 6 else if fs[k].n < 0 ∨ 2147483647 < fs[k].n ∨ T'.contains fs[k].n = true then 11 else valsP (fs.drop (k + 1)) (takesN F fs[k].name) (fs[k].n :: T')) := Lib.hid (by rw [← hfl, List.drop_eq_getElem_cons hlt]; rfl)
                have hfit := hmf.out fs[k] (List.getElem_mem hlt)
                generalize fs[k] = f at hat hst hfit
                obtain ⟨fn, ft⟩ := f
                have hc0 := hat 0 _ (by decide) rfl
                have hc1 := hat 1 _ (by decide) rfl
                simp only [Nat.add_zero] at hc0 hc1
                have hfn := hfit.1
                have hftag := hfit.2
                simp only at hst hfn hftag
                clear hat hfit hSb
                obtain ⟨wk, rfl⟩ : ∃ wo : World, wo = wr := ⟨_, rfl⟩
                have hszk := hck.size
                have hckA := hck.alloc hbw (.cells #[.string fn, .int .i64 ft] 49)
                have hTA := hT.out.grown hckA.grown (hT0.mono hb0) (by omega)
                have hkfA := hkf.kept (Below.heap_alloc wk (.cells #[.string fn, .int .i64 ft] 49) _ hkf.lt)
                have hktA := hkt.kept (Below.heap_alloc wk (.cells #[.string fn, .int .i64 ft] 49) _ hkt.lt)
                have hbx := heap_alloc_new wk (.cells #[.string fn, .int .i64 ft] 49)
                have hklt := hkf.lt
                have hktl := hkt.lt
                have cT := Lib.hid (taken_calls w2.heap.size k F fn _ hTA hfn (by omega) hkfA)
                replace hckA := Lib.hid hckA; replace hTA := Lib.hid hTA; replace hkfA := Lib.hid hkfA; replace hktA := Lib.hid hktA; replace hbx := Lib.hid hbx; replace hck := Lib.hid hck; replace hkt := Lib.hid hkt; replace hkf := Lib.hid hkf; replace hfl := Lib.hid hfl
                go_wp2_with fail
                refine cT.out.mono ?_; rintro e w3 ⟨rfl, hkf3, hg3⟩
                have hck3 := hckA.out.turn hbw hg3 (by omega)
                have hkt3 := hktA.out.kept (hg3.block _ (by simp; omega) (by intro e; injection e with e; omega))
                have hbx3 := (hg3.block wk.heap.size (by simp) (by intro e; injection e with e; omega)).trans hbx.out
                have hsz3 := hg3.size
                simp only [sizeAlloc] at hsz3
                have he0 := blk_cell hbx3 0
                have he1 := blk_cell hbx3 1
                simp only [List.getElem?_toArray, List.getElem?_cons_succ, List.getElem?_cons_zero] at he0 he1
                obtain ⟨qb, hlook, hqb⟩ := hkt3.look (Go.Maps.int_keyed Tryz.underlying3) Tryz.underlying124 Tryz.underlying4 (infoB w3) (keyOf_i64 hftag.1 hftag.2)
                replace hqb := Lib.hid (hqb.trans iLit_mem)
                generalize takesN F fn = F2 at hkf3 hst
                replace hck3 := Lib.hid hck3; replace hkt3 := Lib.hid hkt3; replace hkf3 := Lib.hid hkf3; replace hg3 := Lib.hid hg3; replace hbx3 := Lib.hid hbx3
                clear cT hckA hTA hkfA hktA hbx hck hkt hkf
                generalize takesB F fn = tk at hst ⊢
                cases tk with
                | false =>
                  have hfin : Hid (enumC A ⟨nm, fs⟩ = 6) := Lib.hid (by rw [hd4.out, hst.out]; rfl)
                  clear hst hqb
                  go_wp2
                  go_ret
                  exact ⟨ret_int hfin.out.symm, hck3.out.all, hck3.out.grown⟩
                | true =>
                  by_cases v1 : ft < 0
                  · have hfin : Hid (enumC A ⟨nm, fs⟩ = 11) := Lib.hid (by rw [hd4.out, hst.out]; simp [v1])
                    clear hst hqb
                    go_wp2
                    go_ret
                    exact ⟨ret_int hfin.out.symm, hck3.out.all, hck3.out.grown⟩
                  · by_cases v2 : 2147483647 < ft
                    · have hfin : Hid (enumC A ⟨nm, fs⟩ = 11) := Lib.hid (by rw [hd4.out, hst.out]; simp [v2])
                      clear hst hqb
                      go_wp2
                      go_ret
                      exact ⟨ret_int hfin.out.symm, hck3.out.all, hck3.out.grown⟩
                    · cases qb with
                      | true =>
                        have hfin : Hid (enumC A ⟨nm, fs⟩ = 11) := Lib.hid (by rw [hd4.out, hst.out, hqb.out.1 rfl]; simp)
                        clear hst hqb
                        go_wp2
                        go_ret
                        exact ⟨ret_int hfin.out.symm, hck3.out.all, hck3.out.grown⟩
                      | false =>
                        have hst2 : Hid (valsP (fs.drop (k + 1)) F2 (ft :: T') = valsP fs [] []) := Lib.hid (by
                          rw [hst.out]
                          have hh : ¬ T'.contains ft = true := by
                            intro hh
                            have := hqb.out.2 hh
                            cases this
                          simp only [Bool.not_true, Bool.false_eq_true, if_false]
                          have hnn : ¬ (ft < 0 ∨ 2147483647 < ft ∨ T'.contains ft = true) := by
                            intro z
                            rcases z with z | z | z
                            · exact v1 z
                            · exact v2 z
                            · exact hh z
                          exact (if_neg hnn).symm)
                        clear hqb hst
                        go_wp2_with (at_mapUpdate; refine wpList_put_true rfl _ _ _ 124 rfl 3 4 (Go.Maps.int_keyed Tryz.underlying3) Tryz.underlying124 Tryz.underlying4 (w2.heap.size + 1) k _ rfl hkt3.out (by unfold maxLen; omega) (.int .i64 ft) (iLit ft) rfl rfl (keyOf_i64 hftag.1 hftag.2) ?_; intro w5 hks5 hgr5)
                        have hck5 := Lib.hid (hck3.out.turn hbw hgr5 (by omega))
                        have hkf5 := Lib.hid (hkf3.out.kept (hgr5.block _ hkf3.out.lt (by intro e; injection e with e; omega)))
                        replace hks5 := Lib.hid hks5
                        go_roundw
                        case rel => exact ⟨k + 1, F2, ft :: T', by omega, by go_num, hck5.out, hks5.out, hkf5.out, hst2.out⟩
                        case measure => simp [intOf]; omega
              · have hke : k = fs.length := by omega
                subst hke
                rw [List.drop_length] at hfl
                have hfin : Hid (enumC A ⟨nm, fs⟩ = 0) := Lib.hid (by rw [hd4.out, ← hfl]; rfl)
                replace hck := Lib.hid hck; replace hkt := Lib.hid hkt; replace hkf := Lib.hid hkf; replace hfl := Lib.hid hfl
                obtain ⟨wk, rfl⟩ : ∃ wo : World, wo = wr := ⟨_, rfl⟩
                go_wp2
                go_ret
                exact ⟨ret_int hfin.out.symm, hck.out.all, hck.out.grown⟩

end Go.Proofs.YtkpgaccgcdoijaaGreatDoor

namespace Go.Proofs.YtkpgaccgcdoijaaGreatDoor
open Go.RowKit

def msgsP (x : SchemaD) : List MessageD → List ByteArray → Int × List ByteArray
  | [], A => (0, A)
  | m :: r, A => if msgC x A m ≠ 0 then (msgC x A m, A) else msgsP x r (takesN A m.name)
def enumsP : List EnumD → List ByteArray → Int × List ByteArray
  | [], A => (0, A)
  | m :: r, A => if enumC A m ≠ 0 then (enumC A m, A) else enumsP r (takesN A m.name)
def methsP (x : SchemaD) : List MethodD → List ByteArray → Int
  | [], _ => 0
  | c :: r, F => if !takesB F c.name then 6 else if !msgB x c.inp || !msgB x c.outp then 8 else methsP x r (takesN F c.name)
def checkP (x : SchemaD) : Int :=
  if !nameP x.name then 6 else if x.messages.length = 0 then 12 else if 10 < x.messages.length ∨ 6 < x.enums.length ∨ 6 < x.methods.length then 4
  else if (msgsP x x.messages []).1 ≠ 0 then (msgsP x x.messages []).1 else if (enumsP x.enums (msgsP x x.messages []).2).1 ≠ 0 then (enumsP x.enums (msgsP x x.messages []).2).1 else methsP x x.methods []

/-- What stands while a schema is checked. -/
structure CkS (w : World) (cs : Array Value) (wr : World) : Prop where
  below : Below w.heap.size w wr
  s : wr.heap[w.heap.size]? = some (.cells cs 26 (0, 0))
  size : w.heap.size + 1 ≤ wr.heap.size
theorem CkS.turn {w : World} {cs : Array Value} {wr w2 : World} {g : Nat} (h : CkS w cs wr) (h2 : wr.grownBy w2 (some g)) (hg : w.heap.size + 1 ≤ g) : CkS w cs w2 := by
  have hs := h.size
  refine ⟨h.below.grown h2 (by omega) (fun k hk => by cases hk; omega), (h2.block _ (by omega) ?_).trans h.s, Nat.le_trans hs h2.size⟩
  intro e; injection e with e; omega
theorem CkS.alloc {w : World} {cs : Array Value} {wr : World} (h : CkS w cs wr) (o : Obj) : CkS w cs (wr.alloc o) :=
  h.turn (grown_of_belowB ((Below.refl _ wr).alloc (Nat.le_refl _) o) (some wr.heap.size)) h.size
theorem CkS.under {w : World} {cs : Array Value} {wr w2 : World} (h : CkS w cs wr) (hb : Below wr.heap.size wr w2) : CkS w cs w2 :=
  h.turn (grown_of_belowB hb (some wr.heap.size)) h.size

set_option maxHeartbeats 16000000 in
set_option maxRecDepth 100000 in
theorem check_calls (x : SchemaD) (vm ve vc : Value) (w : World) (h : SchemaRd w (fun k => k < w.heap.size) x vm ve vc) (hT : Tabs w) (hx : x.Fit) :
    Calls Tryz.prog 20 #[.agg #[.string x.name, vm, ve, vc]] w fun e w' => e = .returned (.int .i64 (checkP x)) ∧ Below w.heap.size w w' := by
  have hd : checkP x = if !nameP x.name then 6 else if x.messages.length = 0 then 12 else if 10 < x.messages.length ∨ 6 < x.enums.length ∨ 6 < x.methods.length then 4
    else if (msgsP x x.messages []).1 ≠ 0 then (msgsP x x.messages []).1 else if (enumsP x.enums (msgsP x x.messages []).2).1 ≠ 0 then (enumsP x.enums (msgsP x x.messages []).2).1 else methsP x x.methods [] := rfl
  have hS := Lib.hid h
  obtain ⟨mcs, ecs, h1, h2, h3, h4, h5⟩ := h
  obtain ⟨mA, mc, rfl⟩ := h1.slice
  obtain ⟨eA, ec, rfl⟩ := h2.slice
  obtain ⟨cA, cc, rfl⟩ := h3.slice
  have hl1 := h1.len
  have hl2 := h2.len
  have hl3 := h3.len
  unfold maxLen at hl1 hl2 hl3
  have hmk := @run_makeMap Tryz.prog
  have hck : CkS w #[.string x.name, .slice mA x.messages.length mc, .slice eA x.enums.length ec, .slice cA x.methods.length cc] (w.alloc (.cells #[.string x.name, .slice mA x.messages.length mc, .slice eA x.enums.length ec, .slice cA x.methods.length cc] 26)) :=
    ⟨(Below.refl w.heap.size w).alloc (Nat.le_refl _) _, heap_alloc_new w _, by simp⟩
  have cN := Lib.hid (name_calls x.name _ (hT.below hck.below) hx.name)
  have hmf := Lib.hid hx.messages
  have hef := Lib.hid hx.enums
  have hcf := Lib.hid hx.methods
  generalize nameP x.name = nq at hd cN
  replace h1 := Lib.hid h1; replace h2 := Lib.hid h2; replace h3 := Lib.hid h3; replace h4 := Lib.hid h4; replace h5 := Lib.hid h5; replace hd := Lib.hid hd; replace hT := Lib.hid hT; replace hck := Lib.hid hck
  clear hx
  go_enter Tryz.func20, Tryz.ntmps20
  go_wp2_with fail
  refine cN.out.mono ?_; rintro e w1 ⟨rfl, hb1⟩
  have hck1 := hck.out.under hb1
  have hc0 := blk_cell hck1.s 0
  have hc1 := blk_cell hck1.s 1
  have hc2 := blk_cell hck1.s 2
  have hc3 := blk_cell hck1.s 3
  simp only [List.getElem?_toArray, List.getElem?_cons_succ, List.getElem?_cons_zero] at hc0 hc1 hc2 hc3
  replace hck1 := Lib.hid hck1; replace hb1 := Lib.hid hb1
  clear cN hck
  cases nq with
  | false =>
    have hfin : Hid (checkP x = 6) := Lib.hid (by rw [hd.out]; rfl)
    clear hd
    go_wp2
    go_ret
    exact ⟨ret_int hfin.out.symm, hck1.out.below⟩
  | true =>
    have hd1 : Hid (checkP x = if x.messages.length = 0 then 12 else if 10 < x.messages.length ∨ 6 < x.enums.length ∨ 6 < x.methods.length then 4
      else if (msgsP x x.messages []).1 ≠ 0 then (msgsP x x.messages []).1 else if (enumsP x.enums (msgsP x x.messages []).2).1 ≠ 0 then (enumsP x.enums (msgsP x x.messages []).2).1 else methsP x x.methods []) := Lib.hid (by rw [hd.out]; rfl)
    clear hd
    by_cases g0 : x.messages.length = 0
    · have hfin : Hid (checkP x = 12) := Lib.hid (by rw [hd1.out, if_pos g0])
      have g0' : ((x.messages.length : Int) == 0) = true := by simp only [beq_iff_eq]; omega
      replace g0 := Lib.hid g0
      clear hd1
      go_wp2
      go_ret
      exact ⟨ret_int hfin.out.symm, hck1.out.below⟩
    · have g0' : ((x.messages.length : Int) == 0) = false := by simp only [beq_eq_false_iff_ne]; omega
      have hd2 : Hid (checkP x = if 10 < x.messages.length ∨ 6 < x.enums.length ∨ 6 < x.methods.length then 4
        else if (msgsP x x.messages []).1 ≠ 0 then (msgsP x x.messages []).1 else if (enumsP x.enums (msgsP x x.messages []).2).1 ≠ 0 then (enumsP x.enums (msgsP x x.messages []).2).1 else methsP x x.methods []) := Lib.hid (by rw [hd1.out, if_neg g0])
      clear hd1
      by_cases g1 : 10 < x.messages.length
      · have g1' : (10 : Int) < (x.messages.length : Int) := by omega
        have hfin : Hid (checkP x = 4) := Lib.hid (by rw [hd2.out, if_pos (Or.inl g1)])
        clear hd2
        go_wp2
        go_ret
        exact ⟨ret_int hfin.out.symm, hck1.out.below⟩
      · have g1' : ¬ (10 : Int) < (x.messages.length : Int) := by omega
        by_cases g2 : 6 < x.enums.length
        · have g2' : (6 : Int) < (x.enums.length : Int) := by omega
          have hfin : Hid (checkP x = 4) := Lib.hid (by rw [hd2.out, if_pos (Or.inr (Or.inl g2))])
          clear hd2
          go_wp2
          go_ret
          exact ⟨ret_int hfin.out.symm, hck1.out.below⟩
        · have g2' : ¬ (6 : Int) < (x.enums.length : Int) := by omega
          by_cases g3 : 6 < x.methods.length
          · have g3' : (6 : Int) < (x.methods.length : Int) := by omega
            have hfin : Hid (checkP x = 4) := Lib.hid (by rw [hd2.out, if_pos (Or.inr (Or.inr g3))])
            clear hd2
            go_wp2
            go_ret
            exact ⟨ret_int hfin.out.symm, hck1.out.below⟩
          · have g3' : ¬ (6 : Int) < (x.methods.length : Int) := by omega
            have hd3 : Hid (checkP x = if (msgsP x x.messages []).1 ≠ 0 then (msgsP x x.messages []).1 else if (enumsP x.enums (msgsP x x.messages []).2).1 ≠ 0 then (enumsP x.enums (msgsP x x.messages []).2).1 else methsP x x.methods []) := Lib.hid (by rw [hd2.out, if_neg (by omega)])
            clear hd2
            have hm0 := Lib.hid (KSet.made w1 9 4)
            have hck2 := hck1.out.alloc (.map #[] 0)
            have hcA1 := blk_cell hck2.s 1
            simp only [List.getElem?_toArray, List.getElem?_cons_succ, List.getElem?_cons_zero] at hcA1
            have hsz1 := hck1.out.size
            replace hck2 := Lib.hid hck2
            go_wp2
            go_loopw [48] (fun i wr => ∃ (k : Nat) (A : List ByteArray), k ≤ x.messages.length ∧ i = .int .i64 k ∧ CkS w #[.string x.name, .slice mA x.messages.length mc, .slice eA x.enums.length ec, .slice cA x.methods.length cc] wr ∧
              KSet wr 9 4 w1.heap.size k (A.map sLit) ∧ msgsP x (x.messages.drop k) A = msgsP x x.messages []) (fun i _ => x.messages.length - (intOf i).toNat)
            case atStart => exact ⟨0, [], Nat.zero_le _, rfl, hck2.out, hm0.out, rfl⟩
            case round =>
              obtain ⟨k, A, hk, rfl, hck, hka, hfl⟩ := hrel
              by_cases hlt : k < x.messages.length
              · have hlt' : (k : Int) < (x.messages.length : Int) := by omega
                obtain ⟨b, o, c, hv, hSb, hc⟩ := h1.out.form (by omega)
                injection hv with hv1 hv2 hv3
                subst hv1
                subst hv3
                obtain ⟨vf, vr, q0, q1, q2, gf, gr⟩ := h4.out.get k hlt
                obtain ⟨fA, fc, rfl⟩ := gf.slice
                obtain ⟨rA, rc, rfl⟩ := gr.slice
                have hk0 := h1.out.at_ (w' := wr) (by omega) hck.below.block k 0 (by omega) q0
                have hk1 := h1.out.at_ (w' := wr) (by omega) hck.below.block k 1 (by omega) q1
                have hk2 := h1.out.at_ (w' := wr) (by omega) hck.below.block k 2 (by omega) q2
                simp only [Nat.add_zero] at hk0
                have hfit := hmf.out x.messages[k] (List.getElem_mem hlt)
                have hst : Hid (msgsP x x.messages [] = if msgC x A x.messages[k] ≠ 0 then (msgC x A x.messages[k], A) else msgsP x (x.messages.drop (k + 1)) (takesN A x.messages[k].name)) := Lib.hid (by rw [← hfl, List.drop_eq_getElem_cons hlt]; rfl)
                have hckA := hck.alloc (.cells #[.string x.messages[k].name, .slice fA x.messages[k].fields.length fc, .slice rA x.messages[k].reserved.length rc] 40)
                have hkaA := hka.kept (Below.heap_alloc wr (.cells #[.string x.messages[k].name, .slice fA x.messages[k].fields.length fc, .slice rA x.messages[k].reserved.length rc] 40) _ hka.lt)
                have hlta := hka.lt
                have cM := Lib.hid (message_checked x _ _ _ A x.messages[k] _ _ w1.heap.size k w.heap.size _ (hS.out.kept hckA.below.block (fun _ hk => hk)) (gf.kept hckA.below.block (fun _ hk => hk)) (gr.kept hckA.below.block (fun _ hk => hk)) (hT.out.below hckA.below) hT.out.tops (by omega) hkaA (by omega) hfit)
                generalize x.messages[k] = mm at hk0 hk1 hk2 hst hckA hkaA cM
                have hcs0 := blk_cell hckA.s 0
                have hcs1 := blk_cell hckA.s 1
                have hcs2 := blk_cell hckA.s 2
                have hcs3 := blk_cell hckA.s 3
                simp only [List.getElem?_toArray, List.getElem?_cons_succ, List.getElem?_cons_zero] at hcs0 hcs1 hcs2 hcs3
                have hbsz := hck.size
                obtain ⟨wk, rfl⟩ : ∃ wo : World, wo = wr := ⟨_, rfl⟩
                replace hckA := Lib.hid hckA; replace hkaA := Lib.hid hkaA; replace hck := Lib.hid hck; replace hka := Lib.hid hka; replace hfl := Lib.hid hfl; replace gf := Lib.hid gf; replace gr := Lib.hid gr
                clear hc q0 q1 q2 hSb
                go_wp2_with fail
                refine cM.out.mono ?_; rintro e w3 ⟨rfl, hka3, hg3⟩
                have hck3 := hckA.out.turn hg3 (by omega)
                have hd4 := Lib.hid hd3.out
                generalize msgC x A mm = code at hst ⊢
                replace hck3 := Lib.hid hck3; replace hka3 := Lib.hid hka3; replace hg3 := Lib.hid hg3
                by_cases hz : code = 0
                · have hst2 : Hid (msgsP x (x.messages.drop (k + 1)) (takesN A mm.name) = msgsP x x.messages []) := Lib.hid (by rw [hst.out, if_neg (by simpa using hz)])
                  have hz' : ((code : Int) == 0) = true := by simpa using hz
                  replace hz := Lib.hid hz
                  clear hst
                  go_wp2
                  go_roundw
                  case rel => exact ⟨k + 1, takesN A mm.name, by omega, by go_num, hck3.out, hka3.out, hst2.out⟩
                  case measure => simp [intOf]; omega
                · have hfin : Hid (checkP x = code) := Lib.hid (by rw [hd4.out, hst.out, if_pos hz]; exact if_pos hz)
                  have hz' : ((code : Int) == 0) = false := by simpa using hz
                  clear hst
                  go_wp2
                  go_ret
                  exact ⟨ret_int hfin.out.symm, hck3.out.below⟩
              · have hke : k = x.messages.length := by omega
                subst hke
                rw [List.drop_length] at hfl
                have hd4 : Hid (checkP x = if (enumsP x.enums A).1 ≠ 0 then (enumsP x.enums A).1 else methsP x x.methods []) := Lib.hid (by rw [hd3.out, ← hfl]; exact if_neg (by simp [msgsP]))
                obtain ⟨w2, rfl⟩ : ∃ wo : World, wo = wr := ⟨_, rfl⟩
                have hcB2 := blk_cell hck.s 2
                simp only [List.getElem?_toArray, List.getElem?_cons_succ, List.getElem?_cons_zero] at hcB2
                replace hck := Lib.hid hck; replace hka := Lib.hid hka; replace hfl := Lib.hid hfl
                clear hd3 hcA1 hck2 hm0
                go_wp2
                go_loopw [63] (fun i wr => ∃ (k : Nat) (A' : List ByteArray), k ≤ x.enums.length ∧ i = .int .i64 k ∧ CkS w #[.string x.name, .slice mA x.messages.length mc, .slice eA x.enums.length ec, .slice cA x.methods.length cc] wr ∧
                  KSet wr 9 4 w1.heap.size (x.messages.length + k) (A'.map sLit) ∧ enumsP (x.enums.drop k) A' = enumsP x.enums A) (fun i _ => x.enums.length - (intOf i).toNat)
                case atStart => exact ⟨0, A, Nat.zero_le _, rfl, hck.out, hka.out, rfl⟩
                case round =>
                  obtain ⟨k, A', hk, rfl, hck, hka, hfl⟩ := hrel
                  by_cases hlt : k < x.enums.length
                  · have hlt' : (k : Int) < (x.enums.length : Int) := by omega
                    obtain ⟨b, o, c, hv, hSb, hc⟩ := h2.out.form (by omega)
                    injection hv with hv1 hv2 hv3
                    subst hv1
                    subst hv3
                    obtain ⟨vf, q0, q1, gf⟩ := h5.out.get k hlt
                    obtain ⟨fA, fc, rfl⟩ := gf.slice
                    have hk0 := h2.out.at_ (w' := wr) (by omega) hck.below.block k 0 (by omega) q0
                    have hk1 := h2.out.at_ (w' := wr) (by omega) hck.below.block k 1 (by omega) q1
                    simp only [Nat.add_zero] at hk0
                    have hfit := hef.out x.enums[k] (List.getElem_mem hlt)
                    have hst : Hid (enumsP x.enums A = if enumC A' x.enums[k] ≠ 0 then (enumC A' x.enums[k], A') else enumsP (x.enums.drop (k + 1)) (takesN A' x.enums[k].name)) := Lib.hid (by rw [← hfl, List.drop_eq_getElem_cons hlt]; rfl)
                    have hckA := hck.alloc (.cells #[.string x.enums[k].name, .slice fA x.enums[k].values.length fc] 47)
                    have hkaA := hka.kept (Below.heap_alloc wr (.cells #[.string x.enums[k].name, .slice fA x.enums[k].values.length fc] 47) _ hka.lt)
                    have hlta := hka.lt
                    have cM := Lib.hid (enum_checked A' x.enums[k] _ w1.heap.size (x.messages.length + k) w.heap.size _ (gf.kept hckA.below.block (fun _ hk => hk)) (hT.out.below hckA.below) hT.out.tops (by omega) hkaA (by omega) hfit)
                    generalize x.enums[k] = mm at hk0 hk1 hst hckA hkaA cM
                    have hbsz := hck.size
                    obtain ⟨wk, rfl⟩ : ∃ wo : World, wo = wr := ⟨_, rfl⟩
                    replace hckA := Lib.hid hckA; replace hkaA := Lib.hid hkaA; replace hck := Lib.hid hck; replace hka := Lib.hid hka; replace hfl := Lib.hid hfl; replace gf := Lib.hid gf
                    clear hc q0 q1 hSb
                    go_wp2_with fail
                    refine cM.out.mono ?_; rintro e w3 ⟨rfl, hka3, hg3⟩
                    have hck3 := hckA.out.turn hg3 (by omega)
                    generalize enumC A' mm = code at hst ⊢
                    replace hck3 := Lib.hid hck3; replace hka3 := Lib.hid hka3; replace hg3 := Lib.hid hg3
                    by_cases hz : code = 0
                    · have hst2 : Hid (enumsP (x.enums.drop (k + 1)) (takesN A' mm.name) = enumsP x.enums A) := Lib.hid (by rw [hst.out, if_neg (by simpa using hz)])
                      have hz' : ((code : Int) == 0) = true := by simpa using hz
                      replace hz := Lib.hid hz
                      clear hst
                      go_wp2
                      go_roundw
                      case rel => exact ⟨k + 1, takesN A' mm.name, by omega, by go_num, hck3.out, hka3.out, hst2.out⟩
                      case measure => simp [intOf]; omega
                    · have hfin : Hid (checkP x = code) := Lib.hid (by rw [hd4.out, hst.out, if_pos hz]; exact if_pos hz)
                      have hz' : ((code : Int) == 0) = false := by simpa using hz
                      clear hst
                      go_wp2
                      go_ret
                      exact ⟨ret_int hfin.out.symm, hck3.out.below⟩
                  · have hke : k = x.enums.length := by omega
                    subst hke
                    rw [List.drop_length] at hfl
                    have hd5 : Hid (checkP x = methsP x x.methods []) := Lib.hid (by rw [hd4.out, ← hfl]; exact if_neg (by simp [enumsP]))
                    obtain ⟨w4, rfl⟩ : ∃ wo : World, wo = wr := ⟨_, rfl⟩
                    have hck5 := hck.alloc (.map #[] 0)
                    have hcB3 := blk_cell hck5.s 3
                    simp only [List.getElem?_toArray, List.getElem?_cons_succ, List.getElem?_cons_zero] at hcB3
                    have hm5 := Lib.hid (KSet.made w4 9 4)
                    have hsz4 := hck.size
                    replace hck5 := Lib.hid hck5; replace hck := Lib.hid hck; replace hka := Lib.hid hka; replace hfl := Lib.hid hfl
                    clear hd4 hcB2
                    go_wp2
                    go_loopw [78] (fun i wr => ∃ (k : Nat) (F : List ByteArray), k ≤ x.methods.length ∧ i = .int .i64 k ∧ CkS w #[.string x.name, .slice mA x.messages.length mc, .slice eA x.enums.length ec, .slice cA x.methods.length cc] wr ∧
                      KSet wr 9 4 w4.heap.size k (F.map sLit) ∧ methsP x (x.methods.drop k) F = methsP x x.methods []) (fun i _ => x.methods.length - (intOf i).toNat)
                    case atStart => exact ⟨0, [], Nat.zero_le _, rfl, hck5.out, hm5.out, rfl⟩
                    case round =>
                      obtain ⟨k, F, hk, rfl, hck, hka, hfl⟩ := hrel
                      by_cases hlt : k < x.methods.length
                      · have hlt' : (k : Int) < (x.methods.length : Int) := by omega
                        obtain ⟨b, o, c, hv, hSb, hc⟩ := h3.out.form (by omega)
                        injection hv with hv1 hv2 hv3
                        subst hv1
                        subst hv3
                        have hat : ∀ j v, j < 3 → (methodCells x.methods[k])[j]? = some v → wr.cell? ⟨b, o + k * 3 + j, none⟩ = some v := fun j v hj hv =>
                          h3.out.at_ (by omega) hck.below.block k j (by omega) ((flatMap_at methodCells 3 (fun _ => rfl) x.methods k hlt j hj).trans hv)
                        have hst : Hid (methsP x x.methods [] = if !takesB F x.methods[k].name then 6 else if !msgB x x.methods[k].inp || !msgB x x.methods[k].outp then 8 else methsP x (x.methods.drop (k + 1)) (takesN F x.methods[k].name)) := Lib.hid (by rw [← hfl, List.drop_eq_getElem_cons hlt]; rfl)
                        have hfit := hcf.out x.methods[k] (List.getElem_mem hlt)
                        generalize x.methods[k] = f at hat hst hfit
                        obtain ⟨fn, fi, fo⟩ := f
                        have hk0 := hat 0 _ (by decide) rfl
                        have hk1 := hat 1 _ (by decide) rfl
                        have hk2 := hat 2 _ (by decide) rfl
                        simp only [Nat.add_zero] at hk0 hk1 hk2
                        have hfn := hfit.name
                        simp only at hst hfn
                        clear hat hfit hSb hc
                        obtain ⟨wk, rfl⟩ : ∃ wo : World, wo = wr := ⟨_, rfl⟩
                        have hckA := hck.alloc (.cells #[.string fn, .string fi, .string fo] 54)
                        have hbx := heap_alloc_new wk (.cells #[.string fn, .string fi, .string fo] 54)
                        have hkaA := hka.kept (Below.heap_alloc wk (.cells #[.string fn, .string fi, .string fo] 54) _ hka.lt)
                        have hlta := hka.lt
                        have hs0 := blk_cell hckA.s 0
                        have hs1 := blk_cell hckA.s 1
                        have hs2 := blk_cell hckA.s 2
                        have hs3 := blk_cell hckA.s 3
                        simp only [List.getElem?_toArray, List.getElem?_cons_succ, List.getElem?_cons_zero] at hs0 hs1 hs2 hs3
                        have hbsz := hck.size
                        have cA1 := Lib.hid (message_found x (.slice mA x.messages.length mc) (.slice eA x.enums.length ec) (.slice (some ⟨b, o, none⟩) x.methods.length cc) fi _ (hS.out.kept hckA.below.block (fun _ hk => Nat.lt_of_lt_of_le hk hckA.below.size)))
                        replace hckA := Lib.hid hckA; replace hkaA := Lib.hid hkaA; replace hck := Lib.hid hck; replace hka := Lib.hid hka; replace hfl := Lib.hid hfl; replace hbx := Lib.hid hbx
                        go_wp2_with fail
                        refine cA1.out.mono ?_; rintro e w5 ⟨s1, A1, n1, c1, A2, n2, c2, rfl, hb5⟩
                        have hsz5 := hb5.size
                        simp only [sizeAlloc] at hsz5
                        have hck5 := hckA.out.under hb5
                        have hbx5 := (hb5.block wk.heap.size (by simp)).trans hbx.out
                        have hka5 := hkaA.out.kept (hb5.block _ hkaA.out.lt)
                        have hck6 := hck5.alloc (.cells #[.string s1, .slice A1 n1 c1, .slice A2 n2 c2] 40)
                        have hbx6 := (Below.heap_alloc w5 (.cells #[.string s1, .slice A1 n1 c1, .slice A2 n2 c2] 40) _ (blk_lt hbx5)).trans hbx5
                        have hka6 := hka5.kept (Below.heap_alloc w5 (.cells #[.string s1, .slice A1 n1 c1, .slice A2 n2 c2] 40) _ hka5.lt)
                        have ht0 := blk_cell hck6.s 0
                        have ht1 := blk_cell hck6.s 1
                        have ht2 := blk_cell hck6.s 2
                        have ht3 := blk_cell hck6.s 3
                        simp only [List.getElem?_toArray, List.getElem?_cons_succ, List.getElem?_cons_zero] at ht0 ht1 ht2 ht3
                        have hu0 := blk_cell hbx6 0
                        have hu1 := blk_cell hbx6 1
                        have hu2 := blk_cell hbx6 2
                        simp only [List.getElem?_toArray, List.getElem?_cons_succ, List.getElem?_cons_zero] at hu0 hu1 hu2
                        have cA2 := Lib.hid (message_found x (.slice mA x.messages.length mc) (.slice eA x.enums.length ec) (.slice (some ⟨b, o, none⟩) x.methods.length cc) fo _ (hS.out.kept hck6.below.block (fun _ hk => Nat.lt_of_lt_of_le hk hck6.below.size)))
                        replace hck6 := Lib.hid hck6; replace hbx6 := Lib.hid hbx6; replace hka6 := Lib.hid hka6; replace hck5 := Lib.hid hck5; replace hbx5 := Lib.hid hbx5; replace hka5 := Lib.hid hka5; replace hb5 := Lib.hid hb5
                        clear cA1
                        go_wp2_with fail
                        refine cA2.out.mono ?_; rintro e w7 ⟨s3, A3, n3, c3, A4, n4, c4, rfl, hb7⟩
                        have hsz7 := hb7.size
                        simp only [sizeAlloc] at hsz7
                        have hck7 := hck6.out.under hb7
                        have hbx7 := (hb7.block wk.heap.size (blk_lt hbx6.out)).trans hbx6.out
                        have hka7 := hka6.out.kept (hb7.block _ hka6.out.lt)
                        have hck8 := hck7.alloc (.cells #[.string s3, .slice A3 n3 c3, .slice A4 n4 c4] 40)
                        have hbx8 := (Below.heap_alloc w7 (.cells #[.string s3, .slice A3 n3 c3, .slice A4 n4 c4] 40) _ (blk_lt hbx7)).trans hbx7
                        have hka8 := hka7.kept (Below.heap_alloc w7 (.cells #[.string s3, .slice A3 n3 c3, .slice A4 n4 c4] 40) _ hka7.lt)
                        have hx0 := blk_cell hbx8 0
                        have hx1 := blk_cell hbx8 1
                        have hx2 := blk_cell hbx8 2
                        simp only [List.getElem?_toArray, List.getElem?_cons_succ, List.getElem?_cons_zero] at hx0 hx1 hx2
                        have cT := Lib.hid (taken_calls w4.heap.size k F fn _ (hT.out.below hck8.below) hfn (by omega) hka8)
                        replace hck8 := Lib.hid hck8; replace hbx8 := Lib.hid hbx8; replace hka8 := Lib.hid hka8; replace hck7 := Lib.hid hck7; replace hbx7 := Lib.hid hbx7; replace hka7 := Lib.hid hka7; replace hb7 := Lib.hid hb7
                        clear cA2
                        generalize msgB x fi = qi at hst ⊢
                        generalize msgB x fo = qo at hst ⊢
                        go_wp2_with fail
                        refine cT.out.mono ?_; rintro e w9 ⟨rfl, hka9, hg9⟩
                        have hck9 := Lib.hid (hck8.out.turn hg9 (by omega))
                        replace hka9 := Lib.hid hka9; replace hg9 := Lib.hid hg9
                        generalize takesN F fn = F2 at hka9 hst
                        generalize takesB F fn = tk at hst ⊢
                        cases tk with
                        | false =>
                          have hfin : Hid (checkP x = 6) := Lib.hid (by rw [hd5.out, hst.out]; rfl)
                          clear hst
                          go_wp2
                          go_ret
                          exact ⟨ret_int hfin.out.symm, hck9.out.below⟩
                        | true =>
                          cases qi with
                          | false =>
                            have hfin : Hid (checkP x = 8) := Lib.hid (by rw [hd5.out, hst.out]; rfl)
                            clear hst
                            go_wp2
                            go_ret
                            exact ⟨ret_int hfin.out.symm, hck9.out.below⟩
                          | true =>
                            cases qo with
                            | false =>
                              have hfin : Hid (checkP x = 8) := Lib.hid (by rw [hd5.out, hst.out]; rfl)
                              clear hst
                              go_wp2
                              go_ret
                              exact ⟨ret_int hfin.out.symm, hck9.out.below⟩
                            | true =>
                              have hst2 : Hid (methsP x (x.methods.drop (k + 1)) F2 = methsP x x.methods []) := Lib.hid (by rw [hst.out]; rfl)
                              clear hst
                              go_wp2
                              go_roundw
                              case rel => exact ⟨k + 1, F2, by omega, by go_num, hck9.out, hka9.out, hst2.out⟩
                              case measure => simp [intOf]; omega
                      · have hke : k = x.methods.length := by omega
                        subst hke
                        rw [List.drop_length] at hfl
                        have hfin : Hid (checkP x = 0) := Lib.hid (by rw [hd5.out, ← hfl]; rfl)
                        obtain ⟨wk, rfl⟩ : ∃ wo : World, wo = wr := ⟨_, rfl⟩
                        replace hck := Lib.hid hck; replace hka := Lib.hid hka; replace hfl := Lib.hid hfl
                        go_wp2
                        go_ret
                        exact ⟨ret_int hfin.out.symm, hck.out.below⟩

end Go.Proofs.YtkpgaccgcdoijaaGreatDoor

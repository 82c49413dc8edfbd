import Derived.Test.YtkpgaccgcdoijaaGreatDoorZCan
import Derived.Deep.RegionHeld3
namespace Go.Proofs.YtkpgaccgcdoijaaGreatDoor
open Go.RowKit

theorem set4_blk {w : World} {b : Nat} {a0 a1 a2 a3 : Value} {T : TypeId} (h : w.heap[b]? = some (.cells #[a0, a1, a2, a3] T (0, 0))) (u0 u1 u2 u3 : Value) :
    ((((w.setCell ⟨b, 0, none⟩ u0).setCell ⟨b, 1, none⟩ u1).setCell ⟨b, 2, none⟩ u2).setCell ⟨b, 3, none⟩ u3).heap[b]? = some (.cells #[u0, u1, u2, u3] T (0, 0)) := by
  simp [World.setCell, Array.getElem?_modify, h]
/-- What is read all the while: the schema in order (its rows below b), and where its value lies. -/
structure PrS (w wE : World) (b : Nat) (y : SchemaD) (cs : Array Value) (v1 v2 v3 : Value) : Prop where
  s : wE.heap[w.heap.size]? = some (.cells cs 26 (0, 0))
  rd : SchemaRd wE (fun k => k < b) y v1 v2 v3
  below : Below w.heap.size w wE
  base : w.heap.size < b
  txt : Txt wE b b [] wE
  size : wE.heap.size = b + 1

theorem PrS.tabs {w wE : World} {b : Nat} {y : SchemaD} {cs : Array Value} {v1 v2 v3 : Value} (h : PrS w wE b y cs v1 v2 v3) (hT : Tabs w) {rem total : List UInt8} {W : World} (ht : TxtAt wE b rem total W) : Tabs W :=
  hT.below (h.below.trans (ht.below.mono (Nat.le_of_lt h.base)))
theorem PrS.sAt {w wE : World} {b : Nat} {y : SchemaD} {cs : Array Value} {v1 v2 v3 : Value} (h : PrS w wE b y cs v1 v2 v3) {rem total : List UInt8} {W : World} (ht : TxtAt wE b rem total W) : W.heap[w.heap.size]? = some (.cells cs 26 (0, 0)) :=
  (ht.below.block _ h.base).trans h.s

/-- A field's copy (block bf) while its line is put together. -/
structure FldAt (wE w4 : World) (b bf : Nat) (T : TypeId) (cs : Array Value) (rem total : List UInt8) (W : World) : Prop where
  txt : TxtAt wE b rem total W
  others : Lib.OthersKept 5 (some b) w4 W
  tabs : Tabs W
  blk : W.heap[bf]? = some (.cells cs T (0, 0))
theorem FldAt.under {wE w4 : World} {b bf : Nat} {T : TypeId} {cs : Array Value} {rem total : List UInt8} {W W' : World} (h : FldAt wE w4 b bf T cs rem total W) (hb : Below W.heap.size W W') : FldAt wE w4 b bf T cs rem total W' :=
  ⟨h.txt.under hb, h.others.trans (others_below hb), h.tabs.below hb, (hb.block _ (blk_lt h.blk)).trans h.blk⟩
theorem FldAt.alloc {wE w4 : World} {b bf : Nat} {T : TypeId} {cs : Array Value} {rem total : List UInt8} {W : World} (h : FldAt wE w4 b bf T cs rem total W) (o : Obj) : FldAt wE w4 b bf T cs rem total (W.alloc o) := h.under ((Below.refl _ W).alloc (Nat.le_refl _) o)
theorem FldAt.drew {wE w4 : World} {b bf : Nat} {T : TypeId} {cs : Array Value} {rem total : List UInt8} {W : World} (h : FldAt wE w4 b bf T cs rem total W) : FldAt wE w4 b bf T cs rem total W.drew := h.under (Below.refl _ W).drew
def Cells5 (bf : Nat) (f : FieldD) (W : World) : Prop := W.cell? ⟨bf, 0, none⟩ = some (.string f.name) ∧ W.cell? ⟨bf, 1, none⟩ = some (.int .i64 f.tag) ∧ W.cell? ⟨bf, 2, none⟩ = some (.int .i64 f.label) ∧ W.cell? ⟨bf, 3, none⟩ = some (.int .i64 f.kind) ∧ W.cell? ⟨bf, 4, none⟩ = some (.string f.tname)
theorem cells5_of {bf : Nat} {f : FieldD} {T : TypeId} {W : World} (h : W.heap[bf]? = some (.cells (fieldCells f).toArray T (0, 0))) : Cells5 bf f W :=
  ⟨blk_cell h 0, blk_cell h 1, blk_cell h 2, blk_cell h 3, blk_cell h 4⟩
theorem grow_below (w : World) (k : Nat) (os : Array Obj) : Below w.heap.size w (Sort.grow (w.drewN k) os) := by
  refine ⟨rfl, rfl, rfl, ?_, fun i hi => ?_⟩
  · show w.heap.size ≤ (w.heap ++ os).size
    simp
  · show (w.heap ++ os)[i]? = _
    rw [Array.getElem?_append_left hi]
theorem label_fld {wE w4 : World} {b bf : Nat} {rem total : List UInt8} {f : FieldD} {W : World} (hf : f.Fit) (h : FldAt wE w4 b bf 44 (fieldCells f).toArray rem total W) :
    Calls Tryz.prog 38 #[.int .i64 f.label] W fun e w' => e = .returned (.string (labelP f.label)) ∧ Cells5 bf f w' ∧ FldAt wE w4 b bf 44 (fieldCells f).toArray rem total w' :=
  (label_calls f.label W hf.label).mono fun e w' ⟨h1, h2⟩ => by rw [h2]; exact ⟨h1, cells5_of h.blk, h⟩
theorem kind_fld {wE w4 : World} {b bf : Nat} {rem total : List UInt8} {f : FieldD} {W : World} (hf : f.Fit) (h : FldAt wE w4 b bf 44 (fieldCells f).toArray rem total W) :
    Calls Tryz.prog 39 #[.agg #[.int .i64 f.kind, .string f.tname]] W fun e w' => e = .returned (.string (kindP f.kind f.tname)) ∧ Cells5 bf f w' ∧ FldAt wE w4 b bf 44 (fieldCells f).toArray rem total w' :=
  (pkind_calls f.kind f.tname W hf.kind).mono fun e w' ⟨h1, h2⟩ => ⟨h1, cells5_of (h.under h2).blk, h.under h2⟩
theorem itoa_fld {wE w4 : World} {b bf : Nat} {rem total : List UInt8} {f : FieldD} {W : World} (hf : f.Fit) (h : FldAt wE w4 b bf 44 (fieldCells f).toArray rem total W) :
    Calls Tryz.prog 40 #[.int .i64 f.tag] W fun e w' => e = .returned (.string (itoaB f.tag)) ∧ Cells5 bf f w' ∧ FldAt wE w4 b bf 44 (fieldCells f).toArray rem total w' := by
  refine (Tryz.strconv_Itoa f.tag hf.tag.1 hf.tag.2 W h.tabs.p10).mono ?_
  rintro e w' ⟨rfl, k, os, rfl⟩
  have h2 := grow_below W k os
  exact ⟨rfl, cells5_of (h.under h2).blk, h.under h2⟩
theorem line_fld {wE w4 : World} {b bf : Nat} {rem total : List UInt8} {f : FieldD} {W : World} (hne : bf ≠ b) (hl : total.length ≤ 140737488355328) (h : FldAt wE w4 b bf 44 (fieldCells f).toArray (fieldL f ++ rem) total W) :
    Calls Tryz.prog 37 #[.pointer (some ⟨b, 0, none⟩), .slice (some ⟨W.heap.size, 0, none⟩) 8 8] (W.alloc (.cells #[.string w_two, .string (labelP f.label), .string (kindP f.kind f.tname), .string w_one, .string f.name, .string w_is, .string (itoaB f.tag), .string w_semi] 9)) fun e w' =>
      e = .returned (.tuple #[]) ∧ Cells5 bf f w' ∧ TxtAt wE b rem total w' ∧ Lib.OthersKept 5 (some b) w4 w' := by
  refine (line_turn wE b 8 [w_two, labelP f.label, kindP f.kind f.tname, w_one, f.name, w_is, itoaB f.tag, w_semi] rem total W h.txt hl rfl (by omega)).mono ?_
  rintro e w' ⟨rfl, h1, h2⟩
  refine ⟨rfl, cells5_of ((Solid.same ⟨hne, _, _, _, h.blk, by decide⟩ h2).trans h.blk), h1, h.others.trans h2⟩

theorem infoStr : (Tryz.prog.info? 9).map (fun i => (i.zero, i.size, i.bytes)) = some (some (.string ⟨#[]⟩), 1, 16) := by kernel_rfl
theorem itoa_at {n : Int} {W : World} (hn : i64B n) (hT : Tabs W) : Calls Tryz.prog 40 #[.int .i64 n] W fun e w' => e = .returned (.string (itoaB n)) ∧ Below W.heap.size W w' := by
  refine (Tryz.strconv_Itoa n hn.1 hn.2 W hT.p10).mono ?_
  rintro e w' ⟨rfl, k, os, rfl⟩
  exact ⟨rfl, grow_below W k os⟩
def numCells (l : List Int) : List Value := l.map fun n => Value.string (itoaB n)
theorem numCells_snoc (l : List Int) (n : Int) : numCells (l ++ [n]) = numCells l ++ [.string (itoaB n)] := by simp [numCells]

def Cells2 (bf : Nat) (f : NamedD) (W : World) : Prop := W.cell? ⟨bf, 0, none⟩ = some (.string f.name) ∧ W.cell? ⟨bf, 1, none⟩ = some (.int .i64 f.n)
theorem cells2_of {bf : Nat} {f : NamedD} {T : TypeId} {W : World} (h : W.heap[bf]? = some (.cells (namedCells f).toArray T (0, 0))) : Cells2 bf f W := ⟨blk_cell h 0, blk_cell h 1⟩
theorem itoa_val {wE w4 : World} {b bf : Nat} {rem total : List UInt8} {f : NamedD} {W : World} (hf : i64B f.n) (h : FldAt wE w4 b bf 49 (namedCells f).toArray rem total W) :
    Calls Tryz.prog 40 #[.int .i64 f.n] W fun e w' => e = .returned (.string (itoaB f.n)) ∧ Cells2 bf f w' ∧ FldAt wE w4 b bf 49 (namedCells f).toArray rem total w' := by
  refine (Tryz.strconv_Itoa f.n hf.1 hf.2 W h.tabs.p10).mono ?_
  rintro e w' ⟨rfl, k, os, rfl⟩
  have h2 := grow_below W k os
  exact ⟨rfl, cells2_of (h.under h2).blk, h.under h2⟩
theorem line_val {wE w4 : World} {b bf : Nat} {rem total : List UInt8} {f : NamedD} {W : World} (hne : bf ≠ b) (hl : total.length ≤ 140737488355328) (h : FldAt wE w4 b bf 49 (namedCells f).toArray (valL f ++ rem) total W) :
    Calls Tryz.prog 37 #[.pointer (some ⟨b, 0, none⟩), .slice (some ⟨W.heap.size, 0, none⟩) 5 5] (W.alloc (.cells #[.string w_two, .string f.name, .string w_is, .string (itoaB f.n), .string w_semi] 9)) fun e w' =>
      e = .returned (.tuple #[]) ∧ Cells2 bf f w' ∧ TxtAt wE b rem total w' ∧ Lib.OthersKept 5 (some b) w4 w' := by
  refine (line_turn wE b 5 [w_two, f.name, w_is, itoaB f.n, w_semi] rem total W h.txt hl rfl (by omega)).mono ?_
  rintro e w' ⟨rfl, h1, h2⟩
  refine ⟨rfl, cells2_of ((Solid.same ⟨hne, _, _, _, h.blk, by decide⟩ h2).trans h.blk), h1, h.others.trans h2⟩

/-- The numbers' texts that are collected, in memory made since wb. -/
def NumTurn (wb : World) (l : List Int) (i v : Value) (wr : World) : Prop :=
  ∃ q : Nat, q ≤ l.length ∧ i = .int .i64 q ∧ wr.ownsRow wb.heap.size 9 1 v q (numCells (l.take q)) ∧ Below wb.heap.size wb wr

theorem join_at {l : List Int} {g cap : Nat} {w : World} {B : Nat} (hown : w.ownsRow B 9 1 (.slice (some ⟨g, 0, none⟩) l.length cap) l.length (numCells l)) (hl : (joinB l).data.toList.length ≤ 140737488355328) (hn : l.length ≤ 1000) :
    Calls Tryz.prog 41 #[.slice (some ⟨g, 0, none⟩) l.length cap, .string w_sep] w fun e w' => e = .returned (.string (joinB l)) ∧ Below w.heap.size w w' := by
  have hlen : (l.map itoaB).length = l.length := List.length_map ..
  have h := Tryz.strings_Join g 0 cap (l.map itoaB) w_sep w (fun j s hj => ?_) (hown.lt g rfl).2 (by omega) (by rw [hlen]; exact (own_cap hown).1) (by simpa [joinB] using hl)
  · rw [hlen] at h
    exact h
  · rw [Nat.zero_add]
    have hj2 : (numCells l)[j]? = some (.string s) := by
      rw [List.getElem?_map] at hj
      obtain ⟨n, hn, rfl⟩ := Option.map_eq_some_iff.1 hj
      simp [numCells, hn]
    have hlt : j < l.length * 1 := by
      have := (List.getElem?_eq_some_iff.1 hj).1
      rw [hlen] at this; omega
    exact (hown.cellAt j hlt).trans hj2

def PrintPost (x : SchemaD) (w : World) (e : Ending) (w' : World) : Prop := e = .returned (.string ⟨(printP x).toArray⟩) ∧ Below w.heap.size w w'

set_option maxHeartbeats 16000000 in
set_option maxRecDepth 100000 in
theorem print_calls (x : SchemaD) (vm ve vc : Value) (w : World) (h : SchemaRd w (fun k => k < w.heap.size) x vm ve vc) (hx : x.Modest) (hf : x.Fit) (hT : Tabs w) (hlen : (printP x).length ≤ 140737488355328) :
    Calls Tryz.prog 15 #[.agg #[.string x.name, vm, ve, vc]] w (PrintPost x w) := by
  have hb0 := (Below.refl w.heap.size w).alloc (Nat.le_refl _) (.cells #[.string x.name, vm, ve, vc] 26)
  have hs0 := heap_alloc_new w (.cells #[.string x.name, vm, ve, vc] 26)
  have cC := canon_calls x vm ve vc _ (h.kept hb0.block (fun j hj => by simp; omega)) hx
  have hsz0 : (w.alloc (.cells #[.string x.name, vm, ve, vc] 26)).heap.size = w.heap.size + 1 := by simp
  have hp : printP x = textL (canonP x) := rfl
  have hfy := canon_fit hf
  have hmy := canon_modest hx
  obtain ⟨vmA, vmc, rfl⟩ := h.choose_spec.choose_spec.1.slice
  obtain ⟨veA, vec, rfl⟩ := h.choose_spec.choose_spec.2.1.slice
  obtain ⟨vcA, vcc, rfl⟩ := h.choose_spec.choose_spec.2.2.1.slice
  clear h
  replace cC := Lib.hid cC; replace hb0 := Lib.hid hb0; replace hs0 := Lib.hid hs0; replace hsz0 := Lib.hid hsz0; replace hp := Lib.hid hp; replace hfy := Lib.hid hfy; replace hmy := Lib.hid hmy; replace hx := Lib.hid hx; replace hf := Lib.hid hf; replace hT := Lib.hid hT; replace hlen := Lib.hid hlen
  go_enter Tryz.func15, Tryz.ntmps15
  go_wp2_with fail
  refine cC.out.mono ?_; rintro e w1 ⟨wm, we, wc, rfl, ho1, hb1⟩
  rw [hsz0.out] at ho1 hb1
  obtain ⟨y, hy⟩ : ∃ y, y = canonP x := ⟨_, rfl⟩
  have hny : x.name = y.name := by rw [hy]; rfl
  rw [← hy] at ho1
  have hp' := hp.out; have hfy' := hfy.out; have hmy' := hmy.out; have hlen' := hlen.out
  rw [hp'] at hlen'
  rw [← hy] at hp' hfy' hmy' hlen'
  clear hp hfy hmy hlen
  have hre := hlen'; have hft := hfy'
  have hm1 := hmy'.messages; have hm2 := hmy'.enums; have hm3 := hmy'.methods
  obtain ⟨mA, mc, rfl⟩ := own_slice ho1.choose_spec.choose_spec.1
  obtain ⟨eA, ec, rfl⟩ := own_slice ho1.choose_spec.choose_spec.2.1
  obtain ⟨cA, cc, rfl⟩ := own_slice ho1.choose_spec.choose_spec.2.2.1
  have hs1 := (hb1.block w.heap.size (by omega)).trans hs0.out
  have hk0 := blk_cell hs1 0
  have hk1 := blk_cell hs1 1
  have hk2 := blk_cell hs1 2
  have hk3 := blk_cell hs1 3
  have hkf := blk_frozen hs1
  simp only [List.getElem?_toArray, List.getElem?_cons_succ, List.getElem?_cons_zero] at hk0 hk1 hk2 hk3
  replace hy := Lib.hid hy; replace hp' := Lib.hid hp'; replace hfy' := Lib.hid hfy'; replace hmy' := Lib.hid hmy'; replace hlen' := Lib.hid hlen'; replace ho1 := Lib.hid ho1; replace hs1 := Lib.hid hs1; replace hb1 := Lib.hid hb1; replace hny := Lib.hid hny; replace hre := Lib.hid hre; replace hft := Lib.hid hft
  have hs2 := set4_blk hs1.out (.string x.name) (.slice mA y.messages.length mc) (.slice eA y.enums.length ec) (.slice cA y.methods.length cc)
  have hq0 := blk_cell (blk_alloc hs2 (.cells #[.pointer none, .slice none 0 0] 76)) 0
  simp only [List.getElem?_toArray, List.getElem?_cons_succ, List.getElem?_cons_zero] at hq0
  have hP : PrS w (((((w1.setCell ⟨w.heap.size, 0, none⟩ (.string x.name)).setCell ⟨w.heap.size, 1, none⟩ (.slice mA y.messages.length mc)).setCell ⟨w.heap.size, 2, none⟩ (.slice eA y.enums.length ec)).setCell ⟨w.heap.size, 3, none⟩ (.slice cA y.methods.length cc)).alloc (.cells #[.pointer none, .slice none 0 0] 76))
      w1.heap.size y #[.string x.name, .slice mA y.messages.length mc, .slice eA y.enums.length ec, .slice cA y.methods.length cc] (.slice mA y.messages.length mc) (.slice eA y.enums.length ec) (.slice cA y.methods.length cc) := by
    have hsz : ((((w1.setCell ⟨w.heap.size, 0, none⟩ (.string x.name)).setCell ⟨w.heap.size, 1, none⟩ (.slice mA y.messages.length mc)).setCell ⟨w.heap.size, 2, none⟩ (.slice eA y.enums.length ec)).setCell ⟨w.heap.size, 3, none⟩ (.slice cA y.methods.length cc)).heap.size = w1.heap.size := by simp [World.setCell]
    have hsame := ho1.out.same (fun j hj => set4_same (b := w.heap.size) (.string x.name) (.slice mA y.messages.length mc) (.slice eA y.enums.length ec) (.slice cA y.methods.length cc) j (by omega))
    have hbl := ((((hb0.out.trans (hb1.out.mono (by omega))).setCell (p := ⟨w.heap.size, 0, none⟩) (Nat.le_refl _) (.string x.name)).setCell (p := ⟨w.heap.size, 1, none⟩) (Nat.le_refl _) (.slice mA y.messages.length mc)).setCell (p := ⟨w.heap.size, 2, none⟩) (Nat.le_refl _) (.slice eA y.enums.length ec)).setCell (p := ⟨w.heap.size, 3, none⟩) (Nat.le_refl _) (.slice cA y.methods.length cc)
    have h1s := hb1.out.size
    rw [hsz0.out] at h1s
    have hnew := heap_alloc_new (((((w1.setCell ⟨w.heap.size, 0, none⟩ (.string x.name)).setCell ⟨w.heap.size, 1, none⟩ (.slice mA y.messages.length mc)).setCell ⟨w.heap.size, 2, none⟩ (.slice eA y.enums.length ec)).setCell ⟨w.heap.size, 3, none⟩ (.slice cA y.methods.length cc))) (.cells #[.pointer none, .slice none 0 0] 76)
    rw [hsz] at hnew
    refine ⟨blk_alloc hs2 _, (SchemaRd.own hsame).kept (fun j hj => Below.heap_alloc _ _ j hj) (fun j hj => by rw [hsz] at hj; exact hj), hbl.alloc (by rw [hsz]; omega) _, by omega, ⟨.inl ⟨Nat.le_refl _, _, hnew, World.ownsRowF_nil _ _ _ _, by simp [Value.ownBlock]⟩, Below.refl _ _, Lib.OthersKept.refl _ _ _, Nat.le_refl _, by rw [sizeAlloc, hsz]; omega⟩, by rw [sizeAlloc, hsz]⟩
  have hL : textL y = headL y ++ (y.messages.flatMap msgL ++ (y.enums.flatMap enumL ++ y.methods.flatMap methL)) := rfl
  have hl1 : ([] ++ headL y).length ≤ 140737488355328 := by
    have := hlen'.out
    rw [hL] at this
    simp only [List.length_append, List.nil_append] at this ⊢
    omega
  have cL := line_at _ _ _ 3 [] [w_schemaB, y.name, w_semi] _ hP.txt hl1 rfl (by omega)
  rw [← hny.out, hP.size] at cL
  replace cL := Lib.hid cL; replace hP := Lib.hid hP; replace hs2 := Lib.hid hs2; replace hL := Lib.hid hL; replace hl1 := Lib.hid hl1
  go_wp2_with fail
  refine cL.out.mono ?_; rintro e w3 ⟨rfl, ht3, hx3⟩
  obtain ⟨wE, hP, ht⟩ : ∃ wE : World, PrS w wE w1.heap.size y #[.string x.name, .slice mA y.messages.length mc, .slice eA y.enums.length ec, .slice cA y.methods.length cc] (.slice mA y.messages.length mc) (.slice eA y.enums.length ec) (.slice cA y.methods.length cc) ∧
      TxtAt wE w1.heap.size (y.messages.flatMap msgL ++ (y.enums.flatMap enumL ++ y.methods.flatMap methL)) (textL y) w3 := ⟨_, hP.out, _, ht3, by rw [List.nil_append, hny.out]; exact hL.out.symm⟩
  clear ht3 hx3 cL hs2 hq0
  obtain ⟨mcs, ecs, h1, h2, h3, h4, h5⟩ := hP.rd
  have hk1 := blk_cell (hP.sAt ht) 1
  simp only [List.getElem?_toArray, List.getElem?_cons_succ, List.getElem?_cons_zero] at hk1
  have hbs := hP.base
  replace hP := Lib.hid hP; replace ht := Lib.hid ht; replace h1 := Lib.hid h1; replace h2 := Lib.hid h2; replace h3 := Lib.hid h3; replace h4 := Lib.hid h4; replace h5 := Lib.hid h5
  clear hk0 hk2 hk3 hkf
  go_wp2
  go_loopw [29] (fun i wr => ∃ k : Nat, k ≤ y.messages.length ∧ i = .int .i64 k ∧ TxtAt wE w1.heap.size ((y.messages.drop k).flatMap msgL ++ (y.enums.flatMap enumL ++ y.methods.flatMap methL)) (textL y) wr) (fun i _ => y.messages.length - (intOf i).toNat)
  case atStart => exact ⟨0, Nat.zero_le _, rfl, by simpa using ht.out⟩
  case round =>
    obtain ⟨k, hk, rfl, htx⟩ := hrel
    by_cases hlt : k < y.messages.length
    · have hlt' : (k : Int) < (y.messages.length : Int) := by omega
      obtain ⟨g, o, c, hv, _, hc⟩ := h1.out.form (by omega)
      injection hv with hv1 hv2 hv3
      subst hv1; subst hv3
      obtain ⟨vf, vr, q0, q1, q2, gf, gr⟩ := h4.out.get k hlt
      obtain ⟨fA, fc, rfl⟩ := gf.slice
      obtain ⟨rA, rc, rfl⟩ := gr.slice
      have hmfit := hfy'.out.messages y.messages[k] (List.getElem_mem hlt)
      have hmm := hmy'.out.fields y.messages[k] (List.getElem_mem hlt)
      have hd0 := h1.out.at_ (w' := wr) (by omega) htx.below.block k 0 (by omega) q0
      have hd1 := h1.out.at_ (w' := wr) (by omega) htx.below.block k 1 (by omega) q1
      have hd2 := h1.out.at_ (w' := wr) (by omega) htx.below.block k 2 (by omega) q2
      simp only [Nat.add_zero] at hd0
      rw [List.drop_eq_getElem_cons hlt] at htx
      generalize y.messages[k] = m at hd0 hd1 hd2 htx hmfit hmm gf gr
      have htm := (htx.alloc (.cells #[.string m.name, .slice fA m.fields.length fc, .slice rA m.reserved.length rc] 40)).eq
        (rem' := lineB [w_messageB, m.name, w_openB] ++ (m.fields.flatMap fieldL ++ (resL m.reserved ++ (lineB [w_rbrace] ++ ((y.messages.drop (k + 1)).flatMap msgL ++ (y.enums.flatMap enumL ++ y.methods.flatMap methL)))))) (by rw [List.flatMap_cons, msgL]; simp only [List.append_assoc])
      have hblm := heap_alloc_new wr (.cells #[.string m.name, .slice fA m.fields.length fc, .slice rA m.reserved.length rc] 40)
      have cL := line_turn wE w1.heap.size 3 [w_messageB, m.name, w_openB] _ _ _ htm hlen'.out rfl (by omega)
      rw [sizeAlloc] at cL
      have hltb := htx.lt
      obtain ⟨wa, rfl⟩ : ∃ wo : World, wo = wr := ⟨_, rfl⟩
      replace cL := Lib.hid cL; replace htm := Lib.hid htm; replace htx := Lib.hid htx; replace hblm := Lib.hid hblm; replace gf := Lib.hid gf; replace gr := Lib.hid gr; replace hmfit := Lib.hid hmfit
      clear hc q0 q1 q2
      go_wp2_with fail
      refine cL.out.mono ?_; rintro e w4 ⟨rfl, ht4, hx4⟩
      have hsm4 : Solid w1.heap.size (wa.alloc (.cells #[.string m.name, .slice fA m.fields.length fc, .slice rA m.reserved.length rc] 40)) wa.heap.size := ⟨by omega, _, _, _, hblm.out, by decide⟩
      have hbm4 := (hsm4.same hx4).trans hblm.out
      have hm1' := blk_cell hbm4 1
      simp only [List.getElem?_toArray, List.getElem?_cons_succ, List.getElem?_cons_zero] at hm1'
      replace ht4 := Lib.hid ht4; replace hx4 := Lib.hid hx4; replace hsm4 := Lib.hid hsm4; replace hbm4 := Lib.hid hbm4
      clear cL
      go_wp2
      have hmf := m.fields.length
      go_loopw [41] (fun i wr => ∃ j : Nat, j ≤ m.fields.length ∧ i = .int .i64 j ∧ TxtAt wE w1.heap.size ((m.fields.drop j).flatMap fieldL ++ (resL m.reserved ++ (lineB [w_rbrace] ++ ((y.messages.drop (k + 1)).flatMap msgL ++ (y.enums.flatMap enumL ++ y.methods.flatMap methL))))) (textL y) wr ∧ Lib.OthersKept 5 (some w1.heap.size) w4 wr) (fun i _ => m.fields.length - (intOf i).toNat)
      case atStart => exact ⟨0, Nat.zero_le _, rfl, by simpa using ht4.out, Lib.OthersKept.refl _ _ _⟩
      case round =>
        obtain ⟨j, hj, rfl, htj, hoj⟩ := hrel
        by_cases hltj : j < m.fields.length
        · have hltj' : (j : Int) < (m.fields.length : Int) := by omega
          obtain ⟨fg, fo, fc', hv, _, _⟩ := gf.out.form (by omega)
          injection hv with hv1 hv2 hv3
          subst hv1; subst hv3
          have hat : ∀ i v, i < 5 → (fieldCells m.fields[j])[i]? = some v → wr.cell? ⟨fg, fo + j * 5 + i, none⟩ = some v := fun i v hi hv =>
            gf.out.at_ (by omega) htj.below.block j i (by omega) ((flatMap_at fieldCells 5 (fun _ => rfl) m.fields j hltj i hi).trans hv)
          have hffit := hmfit.out.fields m.fields[j] (List.getElem_mem hltj)
          rw [List.drop_eq_getElem_cons hltj, List.flatMap_cons, List.append_assoc] at htj
          generalize m.fields[j] = f at hat hffit htj
          have e0 := hat 0 _ (by decide) rfl
          have e1 := hat 1 _ (by decide) rfl
          have e2 := hat 2 _ (by decide) rfl
          have e3 := hat 3 _ (by decide) rfl
          have e4 := hat 4 _ (by decide) rfl
          simp only [Nat.add_zero] at e0
          clear hat
          have hfd : FldAt wE w4 w1.heap.size wr.heap.size 44 (fieldCells f).toArray _ (textL y) (wr.alloc (.cells (fieldCells f).toArray 44)) :=
            ⟨htj.alloc _, hoj.alloc _, hP.out.tabs hT.out (htj.alloc _), heap_alloc_new wr _⟩
          have hltb2 := htj.lt
          have hneb : wr.heap.size ≠ w1.heap.size := by omega
          obtain ⟨wb, rfl⟩ : ∃ wo : World, wo = wr := ⟨_, rfl⟩
          obtain ⟨k0, k1, k2, k3, k4⟩ := cells5_of hfd.blk
          have hfdd := Lib.hid hfd.drew
          replace hfd := Lib.hid hfd; replace htj := Lib.hid htj; replace hoj := Lib.hid hoj; replace hffit := Lib.hid hffit
          clear hd0 hd1 hd2 hk1
          go_wp2
          have hC0 : Cells5 wb.heap.size f (wb.alloc (.cells (fieldCells f).toArray 44)).drew := cells5_of hfdd.out.blk
          clear k0 k1 k2 k3 k4 e0 e1 e2 e3 e4 hm1'
          have hFF := hfdd.out
          go_region_held3 (fun w' => w'.cell? ⟨wb.heap.size, 0, none⟩ = some (.string f.name) ∧ w'.cell? ⟨wb.heap.size, 1, none⟩ = some (.int .i64 f.tag) ∧ w'.cell? ⟨wb.heap.size, 2, none⟩ = some (.int .i64 f.label) ∧ w'.cell? ⟨wb.heap.size, 3, none⟩ = some (.int .i64 f.kind) ∧ w'.cell? ⟨wb.heap.size, 4, none⟩ = some (.string f.tname))
            (first | assumption | exact cells5_of (FldAt.alloc (by assumption) _).blk)
            (first | (go_at_call 38; refine (label_fld hffit.out (by assumption)).mono ?_; rintro e w' ⟨rfl, hC, hF⟩) | (go_at_call 39; refine (kind_fld hffit.out (by assumption)).mono ?_; rintro e w' ⟨rfl, hC, hF⟩) | (go_at_call 40; refine (itoa_fld hffit.out (by assumption)).mono ?_; rintro e w' ⟨rfl, hC, hF⟩) | (go_at_call 37; refine (line_fld hneb hlen'.out (by assumption)).mono ?_; rintro e w' ⟨rfl, hC, hTl, hOl⟩))
          all_goals
            have hTh := Lib.hid hTl
            have hOh := Lib.hid hOl
            clear hTl hOl
            go_wp2
            go_roundw
            case rel => exact ⟨j + 1, by omega, by go_num, hTh.out, hOh.out⟩
            case measure => simp [intOf]; omega
        · have hje : j = m.fields.length := by omega
          subst hje
          rw [List.drop_length] at htj
          have htj' : TxtAt wE w1.heap.size (resL m.reserved ++ (lineB [w_rbrace] ++ ((y.messages.drop (k + 1)).flatMap msgL ++ (y.enums.flatMap enumL ++ y.methods.flatMap methL)))) (textL y) wr := htj
          have hbm5 := (hsm4.out.kept hx4.out).same hoj |>.trans hbm4.out
          have hm2' := blk_cell hbm5 2
          simp only [List.getElem?_toArray, List.getElem?_cons_succ, List.getElem?_cons_zero] at hm2'
          have hltb3 := htj.lt
          obtain ⟨wb, rfl⟩ : ∃ wo : World, wo = wr := ⟨_, rfl⟩
          replace htj := Lib.hid htj; replace htj' := Lib.hid htj'; replace hoj := Lib.hid hoj; replace hbm5 := Lib.hid hbm5
          clear hd0 hd1 hd2 hk1 hm1'
          by_cases hr0 : m.reserved.length = 0
          · have hres : resL m.reserved = [] := if_pos hr0
            have htj2 := htj'.out
            rw [hres, List.nil_append] at htj2
            have hrz : ¬ ((0 : Int) < (m.reserved.length : Int)) := by omega
            have cB := line_turn wE w1.heap.size 1 [w_rbrace] _ _ _ htj2 hlen'.out rfl (by omega)
            replace cB := Lib.hid cB; replace hres := Lib.hid hres; replace htj2 := Lib.hid htj2; replace hr0 := Lib.hid hr0
            go_wp2_with fail
            refine cB.out.mono ?_; rintro e w7 ⟨rfl, ht7, _⟩
            replace ht7 := Lib.hid ht7
            clear cB
            go_wp2
            go_roundw
            case rel => exact ⟨k + 1, by omega, by go_num, ht7.out⟩
            case measure => simp [intOf]; omega
          · have hrp : (0 : Int) < (m.reserved.length : Int) := by omega
            go_wp2
            go_loopw [8, 67] (fun v i wr => NumTurn wb m.reserved i v wr) (fun _ i _ => m.reserved.length - (intOf i).toNat)
            case atStart => exact ⟨0, Nat.zero_le _, rfl, ⟨by simp [numCells], .inl ⟨rfl, rfl⟩⟩, Below.refl _ _⟩
            case round =>
              obtain ⟨q, hq, rfl, hol, hbq⟩ := hrel
              by_cases hltq : q < m.reserved.length
              · have hltq' : (q : Int) < (m.reserved.length : Int) := by omega
                obtain ⟨rg, ro, rc', hv, hS, _⟩ := gr.out.form (by omega)
                injection hv with hv1 hv2 hv3
                subst hv1; subst hv3
                have hcr : wr.cell? ⟨rg, ro + q, none⟩ = some (.int .i64 m.reserved[q]) := by
                  have := gr.out.at_ (w' := wr) (by omega) (fun b' hb' => (hbq.block b' (by have := hltb3; omega)).trans (htj.out.below.block b' hb')) q 0 (by omega) (v := .int .i64 m.reserved[q]) (by simp [intsCells, List.getElem?_eq_getElem hltq])
                  simpa using this
                have hnf := hmfit.out.reserved m.reserved[q] (List.getElem_mem hltq)
                have htk : m.reserved.take (q + 1) = m.reserved.take q ++ [m.reserved[q]] := List.take_succ_eq_append_getElem hltq
                generalize m.reserved[q] = nn at hcr hnf htk
                have cI := itoa_at hnf (hP.out.tabs hT.out (htj.out.under hbq))
                obtain ⟨wc, rfl⟩ : ∃ wo : World, wo = wr := ⟨_, rfl⟩
                have hszc := hbq.size
                replace cI := Lib.hid cI; replace hol := Lib.hid hol; replace hbq := Lib.hid hbq; replace htk := Lib.hid htk; replace hnf := Lib.hid hnf
                clear hS
                go_wp2_with fail
                refine cI.out.mono ?_; rintro e w5 ⟨rfl, hb5⟩
                have hol5 := Lib.hid (own_blk hol.out (w' := w5) (fun j hj => hb5.block _ (hol.out.lt j hj).2))
                have hbq5 := Lib.hid (hbq.out.trans (hb5.mono hszc))
                have hsz5 : wb.heap.size ≤ w5.heap.size := Nat.le_trans hszc hb5.size
                have hql : (m.reserved.take q).length = q := by rw [List.length_take]; omega
                replace hb5 := Lib.hid hb5
                go_wp2_with (at_builtin; go_must (refine wpList_push rfl _ _ _ rfl wb.heap.size wb.heap.size 9 _ 1 16 Tryz.underlying80 infoStr rfl (by decide) (by decide) u8 q (numCells (m.reserved.take q)) #[.string (itoaB nn)] rfl hol5.out rfl rfl (by intro u hu; simp at hu; subst hu; rfl) (by omega) hsz5 (Nat.le_refl _) hbq5.out ?_); intro v6 w6 hol6 hg6 hbq6 hat6)
                have hfin := Lib.hid hol6
                have hfin2 := Lib.hid hbq6
                clear hol6 hg6 hbq6 hat6
                go_wp2
                go_roundw
                case rel => exact ⟨v6, _, _, ⟨q + 1, by omega, by go_num, by rw [htk.out, numCells_snoc]; exact hfin.out, hfin2.out⟩, rfl, rfl, rfl⟩
                case measure => simp [intOf]; omega
              · have hqe : q = m.reserved.length := by omega
                subst hqe
                rw [List.take_length] at hol
                obtain ⟨jg, jc, rfl, _, _⟩ := own_form hol (by omega)
                have hres : resL m.reserved = lineB [w_resB, joinB m.reserved, w_semi] := if_neg hr0
                have htj2 := htj'.out
                rw [hres] at htj2
                have hjl : (joinB m.reserved).data.toList.length ≤ 140737488355328 := by
                  obtain ⟨tt, _, h7⟩ := htj2
                  have h8 := hlen'.out
                  rw [← h7] at h8
                  have h9 : lineB [w_resB, joinB m.reserved, w_semi] = w_resB.data.toList ++ ((joinB m.reserved).data.toList ++ w_semi.data.toList) ++ [10] := by simp [lineB, wordsB]
                  rw [h9] at h8
                  simp only [List.length_append] at h8
                  omega
                have cJ := join_at hol hjl (by omega)
                obtain ⟨wc, rfl⟩ : ∃ wo : World, wo = wr := ⟨_, rfl⟩
                have hszc := hbq.size
                replace cJ := Lib.hid cJ; replace hol := Lib.hid hol; replace hbq := Lib.hid hbq; replace hres := Lib.hid hres; replace htj2 := Lib.hid htj2; replace hjl := Lib.hid hjl
                go_wp2_with fail
                refine cJ.out.mono ?_; rintro e w5 ⟨rfl, hb5⟩
                have ht5 := htj2.out.under (hbq.out.trans (hb5.mono hszc))
                have cR := line_turn wE w1.heap.size 3 [w_resB, joinB m.reserved, w_semi] _ _ _ ht5 hlen'.out rfl (by omega)
                replace cR := Lib.hid cR; replace hb5 := Lib.hid hb5; replace ht5 := Lib.hid ht5
                clear cJ
                go_wp2_with fail
                refine cR.out.mono ?_; rintro e w6 ⟨rfl, ht6, _⟩
                have cB := line_turn wE w1.heap.size 1 [w_rbrace] _ _ _ ht6 hlen'.out rfl (by omega)
                replace cB := Lib.hid cB; replace ht6 := Lib.hid ht6
                clear cR
                go_wp2_with fail
                refine cB.out.mono ?_; rintro e w7 ⟨rfl, ht7, _⟩
                replace ht7 := Lib.hid ht7
                clear cB
                go_wp2
                go_roundw
                case rel => exact ⟨k + 1, by omega, by go_num, ht7.out⟩
                case measure => simp [intOf]; omega
    · have hke : k = y.messages.length := by omega
      subst hke
      rw [List.drop_length] at htx
      have htx' : TxtAt wE w1.heap.size (y.enums.flatMap enumL ++ y.methods.flatMap methL) (textL y) wr := htx
      have hk2 := blk_cell (hP.out.sAt htx) 2
      simp only [List.getElem?_toArray, List.getElem?_cons_succ, List.getElem?_cons_zero] at hk2
      obtain ⟨wa, rfl⟩ : ∃ wo : World, wo = wr := ⟨_, rfl⟩
      replace htx := Lib.hid htx; replace htx' := Lib.hid htx'
      clear hk1
      go_wp2
      go_loopw [89] (fun i wr => ∃ k : Nat, k ≤ y.enums.length ∧ i = .int .i64 k ∧ TxtAt wE w1.heap.size ((y.enums.drop k).flatMap enumL ++ y.methods.flatMap methL) (textL y) wr) (fun i _ => y.enums.length - (intOf i).toNat)
      case atStart => exact ⟨0, Nat.zero_le _, rfl, by simpa using htx'.out⟩
      case round =>
        obtain ⟨k, hk, rfl, htx⟩ := hrel
        by_cases hlt : k < y.enums.length
        · have hlt' : (k : Int) < (y.enums.length : Int) := by omega
          obtain ⟨g, o, c, hv, _, hc⟩ := h2.out.form (by omega)
          injection hv with hv1 hv2 hv3
          subst hv1; subst hv3
          obtain ⟨vf, q0, q1, gf⟩ := h5.out.get k hlt
          obtain ⟨fA, fc, rfl⟩ := gf.slice
          have hmfit := hfy'.out.enums y.enums[k] (List.getElem_mem hlt)
          have hmm := hmy'.out.values y.enums[k] (List.getElem_mem hlt)
          have hd0 := h2.out.at_ (w' := wr) (by omega) htx.below.block k 0 (by omega) q0
          have hd1 := h2.out.at_ (w' := wr) (by omega) htx.below.block k 1 (by omega) q1
          simp only [Nat.add_zero] at hd0
          rw [List.drop_eq_getElem_cons hlt] at htx
          generalize y.enums[k] = m at hd0 hd1 htx hmfit hmm gf
          have htm := (htx.alloc (.cells #[.string m.name, .slice fA m.values.length fc] 47)).eq
            (rem' := lineB [w_enumB, m.name, w_openB] ++ (m.values.flatMap valL ++ (lineB [w_rbrace] ++ ((y.enums.drop (k + 1)).flatMap enumL ++ y.methods.flatMap methL)))) (by rw [List.flatMap_cons, enumL]; simp only [List.append_assoc])
          have hblm := heap_alloc_new wr (.cells #[.string m.name, .slice fA m.values.length fc] 47)
          have cL := line_turn wE w1.heap.size 3 [w_enumB, m.name, w_openB] _ _ _ htm hlen'.out rfl (by omega)
          rw [sizeAlloc] at cL
          have hltb := htx.lt
          obtain ⟨wa, rfl⟩ : ∃ wo : World, wo = wr := ⟨_, rfl⟩
          replace cL := Lib.hid cL; replace htm := Lib.hid htm; replace htx := Lib.hid htx; replace hblm := Lib.hid hblm; replace gf := Lib.hid gf; replace hmfit := Lib.hid hmfit
          clear hc q0 q1
          go_wp2_with fail
          refine cL.out.mono ?_; rintro e w4 ⟨rfl, ht4, hx4⟩
          have hsm4 : Solid w1.heap.size (wa.alloc (.cells #[.string m.name, .slice fA m.values.length fc] 47)) wa.heap.size := ⟨by omega, _, _, _, hblm.out, by decide⟩
          have hbm4 := (hsm4.same hx4).trans hblm.out
          have hm1' := blk_cell hbm4 1
          simp only [List.getElem?_toArray, List.getElem?_cons_succ, List.getElem?_cons_zero] at hm1'
          replace ht4 := Lib.hid ht4; replace hx4 := Lib.hid hx4; replace hsm4 := Lib.hid hsm4; replace hbm4 := Lib.hid hbm4
          clear cL
          go_wp2
          go_loopw [101] (fun i wr => ∃ j : Nat, j ≤ m.values.length ∧ i = .int .i64 j ∧ TxtAt wE w1.heap.size ((m.values.drop j).flatMap valL ++ (lineB [w_rbrace] ++ ((y.enums.drop (k + 1)).flatMap enumL ++ y.methods.flatMap methL))) (textL y) wr ∧ Lib.OthersKept 5 (some w1.heap.size) w4 wr) (fun i _ => m.values.length - (intOf i).toNat)
          case atStart => exact ⟨0, Nat.zero_le _, rfl, by simpa using ht4.out, Lib.OthersKept.refl _ _ _⟩
          case round =>
            obtain ⟨j, hj, rfl, htj, hoj⟩ := hrel
            by_cases hltj : j < m.values.length
            · have hltj' : (j : Int) < (m.values.length : Int) := by omega
              obtain ⟨fg, fo, fc', hv, _, _⟩ := gf.out.form (by omega)
              injection hv with hv1 hv2 hv3
              subst hv1; subst hv3
              have hat : ∀ i v, i < 2 → (namedCells m.values[j])[i]? = some v → wr.cell? ⟨fg, fo + j * 2 + i, none⟩ = some v := fun i v hi hv =>
                gf.out.at_ (by omega) htj.below.block j i (by omega) ((flatMap_at namedCells 2 (fun _ => rfl) m.values j hltj i hi).trans hv)
              have hffit := hmfit.out.values m.values[j] (List.getElem_mem hltj)
              rw [List.drop_eq_getElem_cons hltj, List.flatMap_cons, List.append_assoc] at htj
              generalize m.values[j] = f at hat hffit htj
              have e0 := hat 0 _ (by decide) rfl
              have e1 := hat 1 _ (by decide) rfl
              simp only [Nat.add_zero] at e0
              clear hat
              have hfd : FldAt wE w4 w1.heap.size wr.heap.size 49 (namedCells f).toArray _ (textL y) (wr.alloc (.cells (namedCells f).toArray 49)) :=
                ⟨htj.alloc _, hoj.alloc _, hP.out.tabs hT.out (htj.alloc _), heap_alloc_new wr _⟩
              have hltb2 := htj.lt
              have hneb : wr.heap.size ≠ w1.heap.size := by omega
              obtain ⟨wb, rfl⟩ : ∃ wo : World, wo = wr := ⟨_, rfl⟩
              obtain ⟨k0, k1⟩ := cells2_of hfd.blk
              have hfdd := Lib.hid hfd.drew
              replace hfd := Lib.hid hfd; replace htj := Lib.hid htj; replace hoj := Lib.hid hoj; replace hffit := Lib.hid hffit
              clear hd0 hd1 hk2
              go_wp2
              have hC0 : Cells2 wb.heap.size f (wb.alloc (.cells (namedCells f).toArray 49)).drew := cells2_of hfdd.out.blk
              clear k0 k1 e0 e1 hm1'
              have hFF := hfdd.out
              go_region_held3 (fun w' => w'.cell? ⟨wb.heap.size, 0, none⟩ = some (.string f.name) ∧ w'.cell? ⟨wb.heap.size, 1, none⟩ = some (.int .i64 f.n))
                (first | assumption | exact cells2_of (FldAt.alloc (by assumption) _).blk)
                (first | (go_at_call 40; refine (itoa_val hffit.out.2 (by assumption)).mono ?_; rintro e w' ⟨rfl, hC, hF⟩) | (go_at_call 37; refine (line_val hneb hlen'.out (by assumption)).mono ?_; rintro e w' ⟨rfl, hC, hTl, hOl⟩))
              all_goals
                have hTh := Lib.hid hTl
                have hOh := Lib.hid hOl
                clear hTl hOl
                go_wp2
                go_roundw
                case rel => exact ⟨j + 1, by omega, by go_num, hTh.out, hOh.out⟩
                case measure => simp [intOf]; omega
            · have hje : j = m.values.length := by omega
              subst hje
              rw [List.drop_length] at htj
              have htj' : TxtAt wE w1.heap.size (lineB [w_rbrace] ++ ((y.enums.drop (k + 1)).flatMap enumL ++ y.methods.flatMap methL)) (textL y) wr := htj
              obtain ⟨wb, rfl⟩ : ∃ wo : World, wo = wr := ⟨_, rfl⟩
              have cB := line_turn wE w1.heap.size 1 [w_rbrace] _ _ _ htj' hlen'.out rfl (by omega)
              replace cB := Lib.hid cB; replace htj := Lib.hid htj; replace htj' := Lib.hid htj'; replace hoj := Lib.hid hoj
              clear hd0 hd1 hk2 hm1'
              go_wp2_with fail
              refine cB.out.mono ?_; rintro e w7 ⟨rfl, ht7, _⟩
              replace ht7 := Lib.hid ht7
              clear cB
              go_wp2
              go_roundw
              case rel => exact ⟨k + 1, by omega, by go_num, ht7.out⟩
              case measure => simp [intOf]; omega
        · have hke : k = y.enums.length := by omega
          subst hke
          rw [List.drop_length] at htx
          have htx2 : TxtAt wE w1.heap.size (y.methods.flatMap methL) (textL y) wr := htx
          have hk3 := blk_cell (hP.out.sAt htx) 3
          simp only [List.getElem?_toArray, List.getElem?_cons_succ, List.getElem?_cons_zero] at hk3
          obtain ⟨wa, rfl⟩ : ∃ wo : World, wo = wr := ⟨_, rfl⟩
          replace htx := Lib.hid htx; replace htx2 := Lib.hid htx2
          clear hk2
          go_wp2
          go_loopw [121] (fun i wr => ∃ k : Nat, k ≤ y.methods.length ∧ i = .int .i64 k ∧ TxtAt wE w1.heap.size ((y.methods.drop k).flatMap methL) (textL y) wr) (fun i _ => y.methods.length - (intOf i).toNat)
          case atStart => exact ⟨0, Nat.zero_le _, rfl, by simpa using htx2.out⟩
          case round =>
            obtain ⟨k, hk, rfl, htx⟩ := hrel
            by_cases hlt : k < y.methods.length
            · have hlt' : (k : Int) < (y.methods.length : Int) := by omega
              obtain ⟨g, o, c, hv, _, _⟩ := h3.out.form (by omega)
              injection hv with hv1 hv2 hv3
              subst hv1; subst hv3
              have hat : ∀ i v, i < 3 → (methodCells y.methods[k])[i]? = some v → wr.cell? ⟨g, o + k * 3 + i, none⟩ = some v := fun i v hi hv =>
                h3.out.at_ (by omega) htx.below.block k i (by omega) ((flatMap_at methodCells 3 (fun _ => rfl) y.methods k hlt i hi).trans hv)
              rw [List.drop_eq_getElem_cons hlt, List.flatMap_cons] at htx
              generalize y.methods[k] = f at hat htx
              obtain ⟨fn, fi, fo⟩ := f
              have e0 := hat 0 _ (by decide) rfl
              have e1 := hat 1 _ (by decide) rfl
              have e2 := hat 2 _ (by decide) rfl
              simp only [Nat.add_zero] at e0 e1 e2
              clear hat
              have htm := htx.alloc (.cells #[.string fn, .string fi, .string fo] 54)
              have cL := line_turn wE w1.heap.size 7 [w_callB, fn, w_par, fi, w_retB, fo, w_endB] _ _ _ htm hlen'.out rfl (by omega)
              rw [sizeAlloc] at cL
              obtain ⟨wb, rfl⟩ : ∃ wo : World, wo = wr := ⟨_, rfl⟩
              replace cL := Lib.hid cL; replace htm := Lib.hid htm; replace htx := Lib.hid htx
              clear hk3
              go_wp2_with fail
              refine cL.out.mono ?_; rintro e w7 ⟨rfl, ht7, _⟩
              replace ht7 := Lib.hid ht7
              clear cL e0 e1 e2
              go_wp2
              go_roundw
              case rel => exact ⟨k + 1, by omega, by go_num, ht7.out⟩
              case measure => simp [intOf]; omega
            · have hke : k = y.methods.length := by omega
              subst hke
              rw [List.drop_length] at htx
              obtain ⟨tt, hh1, hh2⟩ := htx
              obtain rfl : tt = textL y := by simpa using hh2
              have cS := bstring_calls w1.heap.size w1.heap.size (textL y) wr hh1.bld (headL_ne y)
              obtain ⟨wb, rfl⟩ : ∃ wo : World, wo = wr := ⟨_, rfl⟩
              have hbw := hP.out.below.trans (hh1.below.mono (Nat.le_of_lt hbs))
              replace cS := Lib.hid cS; replace hh1 := Lib.hid hh1; replace hbw := Lib.hid hbw; replace hh2 := Lib.hid hh2
              clear hk3
              go_wp2_with fail
              refine cS.out.mono ?_; rintro e w7 ⟨rfl, hb7⟩
              have hfin : Hid (PrintPost x w (.returned (.string ⟨(textL y).toArray⟩)) w7) := Lib.hid ⟨by rw [hp'.out], hbw.out.trans (hb7.mono (Nat.le_of_lt hbs))⟩
              replace hb7 := Lib.hid hb7
              clear cS
              go_wp2
              go_ret
              exact hfin.out

end Go.Proofs.YtkpgaccgcdoijaaGreatDoor

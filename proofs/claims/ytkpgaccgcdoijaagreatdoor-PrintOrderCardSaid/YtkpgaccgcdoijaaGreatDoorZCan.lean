import Derived.Test.YtkpgaccgcdoijaaGreatDoorZSrt2
namespace Go.Proofs.YtkpgaccgcdoijaaGreatDoor
open Go.RowKit

/-! ### in order, in plain Lean -/
def canonM (m : MessageD) : MessageD := { m with fields := sortBy FieldD.tag m.fields, reserved := sortBy id m.reserved }
def canonE (e : EnumD) : EnumD := { e with values := sortBy NamedD.n e.values }
def canonP (x : SchemaD) : SchemaD := { x with messages := x.messages.map canonM, enums := x.enums.map canonE }
theorem canonP_name (x : SchemaD) : (canonP x).name = x.name := rfl

/-- No more than the sorts can take at once, and no more than memory. -/
structure SchemaD.Modest (x : SchemaD) : Prop where
  messages : x.messages.length ≤ 1000
  enums : x.enums.length ≤ 1000
  methods : x.methods.length ≤ 1000
  fields : ∀ m ∈ x.messages, m.fields.length ≤ 20 ∧ m.reserved.length ≤ 1000
  values : ∀ m ∈ x.enums, m.values.length ≤ 20

/-! ### rows of the call's own -/
theorem own_blk {w w' : World} {B n s : Nat} {e : TypeId} {v : Value} {xs : List Value} (h : w.ownsRow B e s v n xs) (hk : ∀ g, v.ownBlock = some g → w'.heap[g]? = w.heap[g]?) : w'.ownsRow B e s v n xs := by
  refine ⟨h.1, ?_⟩
  rcases h.2 with h1 | ⟨g, cap, cur, h1, h2, hh, h4⟩
  · exact .inl h1
  · exact .inr ⟨g, cap, cur, h1, h2, (hk g (by rw [h1]; rfl)).trans hh, h4⟩
theorem own_put1 {w : World} {B n s c g : Nat} {e : TypeId} {xs : List Value} (h : w.ownsRow B e s (.slice (some ⟨g, 0, none⟩) n c) n xs) (i : Nat) (v : Value) :
    (w.setCell ⟨g, i, none⟩ v).ownsRow B e s (.slice (some ⟨g, 0, none⟩) n c) n (xs.set i v) := by
  refine ⟨by rw [List.length_set]; exact h.1, ?_⟩
  rcases h.2 with ⟨h', _⟩ | ⟨g', cap', cur, h', hb, hh, h1, h2, h3, h4⟩
  · cases h'
  · injection h' with h5 _ h7
    injection h5 with h5
    injection h5 with h5 _ _
    subst h5; subst h7
    refine .inr ⟨g, c, cur.setIfInBounds i v, rfl, hb, ?_, h1, h2, by simpa using h3, ?_⟩
    · simp [World.setCell, Array.getElem?_modify, hh]
    · rw [Array.toList_setIfInBounds, List.take_set, h4]
theorem MsgRow.range {w w' : World} {E : Nat} : ∀ {B : Nat} {l : List MessageD} {cs : List Value}, (∀ k, B ≤ k → k < E → w'.heap[k]? = w.heap[k]?) → MsgRow w E B l cs → MsgRow w' E B l cs
  | _, [], _, _, h => h
  | B, m :: r, _, hk, ⟨vf, vr, rest, B', h1, h2, h3, h4, h5, h6, h7⟩ => by
    have hE := MsgRow.le h7
    exact ⟨vf, vr, rest, B', h1, own_blk h2 (fun g hg => hk g (h2.lt g hg).1 (Nat.lt_of_lt_of_le (h4 g hg) hE)), own_blk h3 (fun g hg => hk g (h3.lt g hg).1 (Nat.lt_of_lt_of_le (h5 g hg) hE)), h4, h5, h6,
      MsgRow.range (fun k a b => hk k (Nat.le_trans h6 a) b) h7⟩
theorem EnumRow.range {w w' : World} {E : Nat} : ∀ {B : Nat} {l : List EnumD} {cs : List Value}, (∀ k, B ≤ k → k < E → w'.heap[k]? = w.heap[k]?) → EnumRow w E B l cs → EnumRow w' E B l cs
  | _, [], _, _, h => h
  | B, m :: r, _, hk, ⟨vf, rest, B', h1, h2, h4, h6, h7⟩ => by
    have hE := EnumRow.le h7
    exact ⟨vf, rest, B', h1, own_blk h2 (fun g hg => hk g (h2.lt g hg).1 (Nat.lt_of_lt_of_le (h4 g hg) hE)), h4, h6, EnumRow.range (fun k a b => hk k (Nat.le_trans h6 a) b) h7⟩
theorem own_one {w : World} {B n s : Nat} {e : TypeId} {v : Value} {xs : List Value} (h : w.ownsRow B e s v n xs) {cap : Nat} {g : Nat} (hv : v = .slice (some ⟨g, 0, none⟩) n cap) : g < w.heap.size ∧ B ≤ g := by
  have := h.lt g (by rw [hv]; rfl)
  exact ⟨this.2, this.1⟩

/-! ### what stands while a schema is put in order -/
/-- The schema's copy (block w.heap.size), the result's place behind it; since the world wE no block that was laid for the result has turned. -/
structure CanS (w wE : World) (cs : Array Value) (wr : World) : Prop where
  below : Below w.heap.size w wr
  s : wr.heap[w.heap.size]? = some (.cells cs 26 (0, 0))
  r : wr.heap[w.heap.size + 1]? = some (.cells #[.string noText, .slice none 0 0, .slice none 0 0, .slice none 0 0] 26 (0, 0))
  base : w.heap.size + 2 ≤ wE.heap.size
  size : wE.heap.size ≤ wr.heap.size
  kept : ∀ b, w.heap.size + 2 ≤ b → b < wE.heap.size → wr.heap[b]? = wE.heap[b]?
theorem CanS.turn {w wE : World} {cs : Array Value} {wr w2 : World} {g : Nat} (h : CanS w wE cs wr) (h2 : wr.grownBy w2 (some g)) (hg : wE.heap.size ≤ g) : CanS w wE cs w2 := by
  have hb := h.base
  have hs := h.size
  refine ⟨h.below.grown h2 (by omega) (fun k hk => by cases hk; omega), (h2.block _ (by omega) ?_).trans h.s, (h2.block _ (by omega) ?_).trans h.r, hb, Nat.le_trans hs h2.size, fun b h3 h4 => (h2.block b (by omega) ?_).trans (h.kept b h3 h4)⟩
  all_goals (intro e; injection e with e; omega)
theorem CanS.row {w wE : World} {cs : Array Value} {wr w2 : World} {o : Option Nat} (h : CanS w wE cs wr) (h2 : wr.grownBy w2 o) (hg : ∀ g, o = some g → wE.heap.size ≤ g) : CanS w wE cs w2 := by
  cases o with
  | some g => exact h.turn h2 (hg g rfl)
  | none => exact h.turn (g := wr.heap.size) ⟨h2.os, h2.tape, h2.output, h2.size, fun k hk _ => h2.block k hk (by simp)⟩ h.size
theorem CanS.under {w wE : World} {cs : Array Value} {wr w2 : World} (h : CanS w wE cs wr) (hb : Below wr.heap.size wr w2) : CanS w wE cs w2 :=
  h.turn (grown_of_belowB hb (some wr.heap.size)) h.size
theorem CanS.set {w wE : World} {cs : Array Value} {wr : World} (h : CanS w wE cs wr) {g i : Nat} (ha : wE.heap.size ≤ g) (v : Value) : CanS w wE cs (wr.setCell ⟨g, i, none⟩ v) :=
  h.turn (setCell_grown _ _ _ _) ha
theorem CanS.store {w wE : World} {cs : Array Value} {wr : World} (h : CanS w wE cs wr) (i : Nat) (v : Value) : CanS w wE (cs.setIfInBounds i v) (wr.setCell ⟨w.heap.size, i, none⟩ v) := by
  have hb := h.base
  refine ⟨h.below.setCell (Nat.le_refl _) _, ?_, (Below.heap_setCell _ _ _ _ (by simp)).trans h.r, hb, by simpa [World.setCell] using h.size, fun b h3 h4 => (Below.heap_setCell _ _ _ _ (by simp only; omega)).trans (h.kept b h3 h4)⟩
  simp [World.setCell, Array.getElem?_modify, h.s]
theorem CanS.next {w wE : World} {cs : Array Value} {wr : World} (h : CanS w wE cs wr) : CanS w wr cs wr :=
  ⟨h.below, h.s, h.r, Nat.le_trans h.base h.size, Nat.le_refl _, fun _ _ _ => rfl⟩

end Go.Proofs.YtkpgaccgcdoijaaGreatDoor

namespace Go.Proofs.YtkpgaccgcdoijaaGreatDoor
open Go.RowKit

theorem sortBy_length {α : Type} (key : α → Int) (l : List α) : (sortBy key l).length = l.length := (sortBy_perm key l).length_eq
theorem MsgRd.one {w : World} {S : Nat → Prop} : ∀ {l : List MessageD} {cs : List Value}, MsgRd w S l cs → ∀ u ∈ cs, u.oneCell' = true
  | [], _, h => by rw [show _ = [] from h]; intro u hu; cases hu
  | _ :: _, _, ⟨vf, vr, rest, e, h1, h2, h3⟩ => by
    obtain ⟨A, c, rfl⟩ := h1.slice
    obtain ⟨A2, c2, rfl⟩ := h2.slice
    intro u hu
    rw [e] at hu
    simp only [List.mem_cons] at hu
    rcases hu with rfl | rfl | rfl | hu
    · rfl
    · rfl
    · rfl
    · exact MsgRd.one h3 u hu
theorem EnumRd.one {w : World} {S : Nat → Prop} : ∀ {l : List EnumD} {cs : List Value}, EnumRd w S l cs → ∀ u ∈ cs, u.oneCell' = true
  | [], _, h => by rw [show _ = [] from h]; intro u hu; cases hu
  | _ :: _, _, ⟨vf, rest, e, h1, h3⟩ => by
    obtain ⟨A, c, rfl⟩ := h1.slice
    intro u hu
    rw [e] at hu
    simp only [List.mem_cons] at hu
    rcases hu with rfl | rfl | hu
    · rfl
    · rfl
    · exact EnumRd.one h3 u hu
theorem fields_one (l : List FieldD) : ∀ u ∈ fieldsCells l, u.oneCell' = true := by
  intro u hu
  obtain ⟨x, _, hx⟩ := List.mem_flatMap.1 hu
  exact field_one x u hx
theorem nameds_one (l : List NamedD) : ∀ u ∈ namedsCells l, u.oneCell' = true := by
  intro u hu
  obtain ⟨x, _, hx⟩ := List.mem_flatMap.1 hu
  exact named_one x u hx
theorem ints_one (l : List Int) : ∀ u ∈ intsCells l, u.oneCell' = true := by
  intro u hu
  obtain ⟨x, _, rfl⟩ := List.mem_map.1 hu
  rfl
theorem methods_one (l : List MethodD) : ∀ u ∈ methodsCells l, u.oneCell' = true := by
  intro u hu
  obtain ⟨x, _, hx⟩ := List.mem_flatMap.1 hu
  simp only [methodCells, List.mem_cons, List.mem_nil_iff, or_false] at hx
  rcases hx with rfl | rfl | rfl <;> rfl

/-! ### the loops' states -/
def MsgTurn (w W0 : World) (B1 : Nat) (cs : Array Value) (x : SchemaD) (v : Value) (k : Nat) (wr : World) : Prop :=
  ∃ done rest, CanS w W0 cs wr ∧ B1 ≤ wr.heap.size ∧ wr.ownsRow (w.heap.size + 2) 40 3 v x.messages.length (done ++ rest) ∧ (∀ g, v.ownBlock = some g → g < B1) ∧ MsgRd w (fun k => k < w.heap.size) (x.messages.drop k) rest ∧ MsgRow wr wr.heap.size B1 ((x.messages.take k).map canonM) done
theorem set3 {done rest : List Value} {a b c b' c' : Value} {j : Nat} (h : done.length = j) : ((done ++ a :: b :: c :: rest).set (j + 1) b').set (j + 2) c' = (done ++ [a, b', c']) ++ rest := by
  subst h
  rw [List.set_append_right _ _ (by omega), List.set_append_right _ _ (by omega), Nat.add_sub_cancel_left, Nat.add_sub_cancel_left]
  simp
theorem MsgTurn.step {w W0 : World} {B1 : Nat} {cs : Array Value} {x : SchemaD} {g c k : Nat} {wr w7 : World} {done rest : List Value} {vf vr vf2 vr2 : Value} (hk : k < x.messages.length)
    (hck : CanS w W0 cs wr) (hB : B1 ≤ wr.heap.size) (hW : W0.heap.size ≤ g) (hg : g < B1) (h1 : MsgRow wr wr.heap.size B1 ((x.messages.take k).map canonM) done) (h2 : MsgRd w (fun k => k < w.heap.size) (x.messages.drop (k + 1)) rest)
    (hG : wr.grownBy w7 (some g)) (hown : w7.ownsRow (w.heap.size + 2) 40 3 (.slice (some ⟨g, 0, none⟩) x.messages.length c) x.messages.length (((done ++ .string x.messages[k].name :: vf :: vr :: rest).set (k * 3 + 1) vf2).set (k * 3 + 2) vr2))
    (hf : w7.ownsRow wr.heap.size 44 5 vf2 x.messages[k].fields.length ((sortBy FieldD.tag x.messages[k].fields).flatMap fieldCells)) (hr : w7.ownsRow wr.heap.size 3 1 vr2 x.messages[k].reserved.length (intsCells (sortBy id x.messages[k].reserved))) :
    MsgTurn w W0 B1 cs x (.slice (some ⟨g, 0, none⟩) x.messages.length c) (k + 1) w7 := by
  have hl : done.length = k * 3 := by
    rw [h1.length, List.length_map, List.length_take, Nat.min_eq_left (by omega)]
  rw [set3 hl] at hown
  have h3 := MsgRow.range (w' := w7) (fun b hb1 hb2 => hG.block b hb2 (by intro e; injection e with e; omega)) h1
  have hx : (x.messages.take (k + 1)).map canonM = (x.messages.take k).map canonM ++ [canonM x.messages[k]] := by
    rw [List.take_succ_eq_append_getElem hk, List.map_append]; rfl
  refine ⟨_, rest, hck.turn hG hW, Nat.le_trans hB hG.size, hown, fun j hj => ?_, h2, ?_⟩
  · simp only [Value.ownBlock, Option.some.injEq] at hj
    omega
  · rw [hx]
    refine MsgRow.snoc (m := canonM x.messages[k]) ?_ ?_ (fun j hj => (hf.lt j hj).2) (fun j hj => (hr.lt j hj).2) hG.size h3
    · show w7.ownsRow wr.heap.size 44 5 vf2 (sortBy FieldD.tag x.messages[k].fields).length _
      rw [sortBy_length]; exact hf
    · show w7.ownsRow wr.heap.size 3 1 vr2 (sortBy id x.messages[k].reserved).length _
      rw [sortBy_length]; exact hr

def EnumTurn (w wE : World) (B1 : Nat) (cs : Array Value) (x : SchemaD) (v : Value) (k : Nat) (wr : World) : Prop :=
  ∃ done rest, CanS w wE cs wr ∧ B1 ≤ wr.heap.size ∧ wr.ownsRow wE.heap.size 47 2 v x.enums.length (done ++ rest) ∧ (∀ g, v.ownBlock = some g → g < B1) ∧ EnumRd w (fun k => k < w.heap.size) (x.enums.drop k) rest ∧ EnumRow wr wr.heap.size B1 ((x.enums.take k).map canonE) done
theorem set2 {done rest : List Value} {a b b' : Value} {j : Nat} (h : done.length = j) : ((done ++ a :: b :: rest).set (j + 1) b') = (done ++ [a, b']) ++ rest := by
  subst h
  rw [List.set_append_right _ _ (by omega), Nat.add_sub_cancel_left]
  simp
theorem EnumTurn.step {w wE : World} {B1 : Nat} {cs : Array Value} {x : SchemaD} {g c k : Nat} {wr w7 : World} {done rest : List Value} {vf vf2 : Value} (hk : k < x.enums.length)
    (hck : CanS w wE cs wr) (hB : B1 ≤ wr.heap.size) (hW : wE.heap.size ≤ g) (hg : g < B1) (h1 : EnumRow wr wr.heap.size B1 ((x.enums.take k).map canonE) done) (h2 : EnumRd w (fun k => k < w.heap.size) (x.enums.drop (k + 1)) rest)
    (hG : wr.grownBy w7 (some g)) (hown : w7.ownsRow wE.heap.size 47 2 (.slice (some ⟨g, 0, none⟩) x.enums.length c) x.enums.length ((done ++ .string x.enums[k].name :: vf :: rest).set (k * 2 + 1) vf2))
    (hf : w7.ownsRow wr.heap.size 49 2 vf2 x.enums[k].values.length ((sortBy NamedD.n x.enums[k].values).flatMap namedCells)) :
    EnumTurn w wE B1 cs x (.slice (some ⟨g, 0, none⟩) x.enums.length c) (k + 1) w7 := by
  have hl : done.length = k * 2 := by
    rw [h1.length, List.length_map, List.length_take, Nat.min_eq_left (by omega)]
  rw [set2 hl] at hown
  have h3 := EnumRow.range (w' := w7) (fun b hb1 hb2 => hG.block b hb2 (by intro e; injection e with e; omega)) h1
  have hx : (x.enums.take (k + 1)).map canonE = (x.enums.take k).map canonE ++ [canonE x.enums[k]] := by
    rw [List.take_succ_eq_append_getElem hk, List.map_append]; rfl
  refine ⟨_, rest, hck.turn hG hW, Nat.le_trans hB hG.size, hown, fun j hj => ?_, h2, ?_⟩
  · simp only [Value.ownBlock, Option.some.injEq] at hj
    omega
  · rw [hx]
    refine EnumRow.snoc (m := canonE x.enums[k]) ?_ (fun j hj => (hf.lt j hj).2) hG.size h3
    show w7.ownsRow wr.heap.size 49 2 vf2 (sortBy NamedD.n x.enums[k].values).length _
    rw [sortBy_length]; exact hf

theorem grown_row {w wr w2 : World} {g : Nat} {o : Option Nat} (h : w.grownBy wr (some g)) (h2 : wr.grownBy w2 o) (ho : ∀ j, o = some j → w.heap.size ≤ j) : w.grownBy w2 (some g) := by
  cases o with
  | some j => exact grown_above h h2 (ho j rfl)
  | none => exact ⟨h2.os.trans h.os, h2.tape.trans h.tape, h2.output.trans h.output, Nat.le_trans h.size h2.size, fun k hk hne => (h2.block k (Nat.lt_of_lt_of_le hk h.size) (by simp)).trans (h.block k hk hne)⟩
def CanonPost (x : SchemaD) (w : World) (e : Ending) (w' : World) : Prop :=
  ∃ vm ve vc, e = .returned (.agg #[.string x.name, vm, ve, vc]) ∧ OwnSchema w' w.heap.size w'.heap.size (canonP x) vm ve vc ∧ Below w.heap.size w w'

set_option maxHeartbeats 8000000 in
set_option maxRecDepth 100000 in
theorem canon_calls (x : SchemaD) (vm ve vc : Value) (w : World) (h : SchemaRd w (fun k => k < w.heap.size) x vm ve vc) (hx : x.Modest) :
    Calls Tryz.prog 13 #[.agg #[.string x.name, vm, ve, vc]] w (CanonPost x w) := by
  obtain ⟨mcs, ecs, h1, h2, h3, h4, h5⟩ := h
  obtain ⟨mA, mc, rfl⟩ := h1.slice
  obtain ⟨eA, ec, rfl⟩ := h2.slice
  obtain ⟨cA, cc, rfl⟩ := h3.slice
  have hl1 := hx.messages
  have hl2 := hx.enums
  have hl3 := hx.methods
  have hck0 : CanS w ((w.alloc (.cells #[.string x.name, .slice mA x.messages.length mc, .slice eA x.enums.length ec, .slice cA x.methods.length cc] 26)).alloc (.cells #[.string noText, .slice none 0 0, .slice none 0 0, .slice none 0 0] 26)) #[.string x.name, .slice mA x.messages.length mc, .slice eA x.enums.length ec, .slice cA x.methods.length cc]
      ((w.alloc (.cells #[.string x.name, .slice mA x.messages.length mc, .slice eA x.enums.length ec, .slice cA x.methods.length cc] 26)).alloc (.cells #[.string noText, .slice none 0 0, .slice none 0 0, .slice none 0 0] 26)) := by
    have hb1 := (Below.refl w.heap.size w).alloc (Nat.le_refl _) (.cells #[.string x.name, .slice mA x.messages.length mc, .slice eA x.enums.length ec, .slice cA x.methods.length cc] 26)
    refine ⟨hb1.alloc (by simp) _, ?_, ?_, by simp, Nat.le_refl _, fun _ _ _ => rfl⟩
    · exact blk_alloc (heap_alloc_new w _) _
    · have := heap_alloc_new (w.alloc (.cells #[.string x.name, .slice mA x.messages.length mc, .slice eA x.enums.length ec, .slice cA x.methods.length cc] 26)) (.cells #[.string noText, .slice none 0 0, .slice none 0 0, .slice none 0 0] 26)
      rw [sizeAlloc] at this
      exact this
  obtain ⟨W0, hWs, hWb, hck0⟩ : ∃ W0 : World, W0.heap.size = w.heap.size + 2 ∧ Below w.heap.size w W0 ∧ CanS w W0 #[.string x.name, .slice mA x.messages.length mc, .slice eA x.enums.length ec, .slice cA x.methods.length cc]
      ((w.alloc (.cells #[.string x.name, .slice mA x.messages.length mc, .slice eA x.enums.length ec, .slice cA x.methods.length cc] 26)).alloc (.cells #[.string noText, .slice none 0 0, .slice none 0 0, .slice none 0 0] 26)) := ⟨_, by simp, hck0.below, hck0⟩
  have hW0 : ((w.alloc (.cells #[.string x.name, .slice mA x.messages.length mc, .slice eA x.enums.length ec, .slice cA x.methods.length cc] 26)).alloc (.cells #[.string noText, .slice none 0 0, .slice none 0 0, .slice none 0 0] 26)).heap.size = w.heap.size + 2 := by simp
  have cM := clone_message mA x.messages.length mc mcs _ (h1.kept hck0.below.block (fun k hk => by rw [hW0]; omega)) h4.one (by omega)
  replace hW0 := Lib.hid hW0; replace hck0 := Lib.hid hck0; replace cM := Lib.hid cM; replace h1 := Lib.hid h1; replace h2 := Lib.hid h2; replace h3 := Lib.hid h3; replace h4 := Lib.hid h4; replace h5 := Lib.hid h5; replace hx := Lib.hid hx
  go_enter Tryz.func13, Tryz.ntmps13
  go_wp2_with fail
  refine cM.out.mono ?_; rintro e w1 ⟨gA, gc, rfl, hown, hb1⟩
  have hck1 := hck0.out.under hb1
  rw [hW0.out] at hown
  have hk1 := blk_cell hck1.s 1
  have hf1 := blk_frozen hck1.s 1
  simp only [List.getElem?_toArray, List.getElem?_cons_succ, List.getElem?_cons_zero] at hk1
  have hck2 : CanS w _ #[.string x.name, .slice gA x.messages.length gc, .slice eA x.enums.length ec, .slice cA x.methods.length cc] _ := hck1.store 1 (.slice gA x.messages.length gc)
  have hk2 := blk_cell hck2.s 1
  have hk3 := blk_cell hck2.s 2
  simp only [List.getElem?_toArray, List.getElem?_cons_succ, List.getElem?_cons_zero] at hk2 hk3
  replace hck1 := Lib.hid hck1; replace hck2 := Lib.hid hck2; replace hb1 := Lib.hid hb1; replace hown := Lib.hid hown
  go_wp2
  go_loopw [14] (fun i wr => ∃ k : Nat, k ≤ x.messages.length ∧ i = .int .i64 k ∧ MsgTurn w W0 w1.heap.size #[.string x.name, .slice gA x.messages.length gc, .slice eA x.enums.length ec, .slice cA x.methods.length cc] x (.slice gA x.messages.length gc) k wr) (fun i _ => x.messages.length - (intOf i).toNat)
  case atStart =>
    refine ⟨0, Nat.zero_le _, rfl, [], mcs, hck2.out, by simp [World.setCell], ?_, fun g hg => (hown.out.lt g hg).2, by simpa using h4.out, ?_⟩
    · exact own_set hown.out (by simp only; omega) _
    · exact ⟨rfl, by simp [World.setCell]⟩
  case round =>
    obtain ⟨k, hk, rfl, done, rest0, hck, hB, hown, hgB, hmr, hmw⟩ := hrel
    by_cases hlt : k < x.messages.length
    · have hlt' : (k : Int) < (x.messages.length : Int) := by omega
      have hdl : done.length = k * 3 := by rw [hmw.length, List.length_map, List.length_take, Nat.min_eq_left (by omega)]
      rw [List.drop_eq_getElem_cons hlt] at hmr
      obtain ⟨vf, vr, rest, e1, hrf, hrr, hmr'⟩ := hmr
      subst e1
      have hfit := hx.out.fields x.messages[k] (List.getElem_mem hlt)
      obtain ⟨g, c, hv, _, hbase⟩ := own_form hown (by omega)
      injection hv with hv1 _ hv3
      subst hv1; subst hv3
      have hgB' : g < w1.heap.size := hgB g rfl
      obtain ⟨cur, hcur⟩ := own_cells hown
      obtain ⟨fA, fc, rfl⟩ := hrf.slice
      obtain ⟨rA, rc, rfl⟩ := hrr.slice
      have c1 : wr.cell? ⟨g, k * 3 + 1, none⟩ = some (.slice fA x.messages[k].fields.length fc) := by
        rw [hown.cellAt (k * 3 + 1) (by omega), List.getElem?_append_right (by omega), hdl]; simp
      have hs1 := blk_cell hck.s 1
      simp only [List.getElem?_toArray, List.getElem?_cons_succ, List.getElem?_cons_zero] at hs1
      have cF := clone_field fA x.messages[k].fields.length fc (fieldsCells x.messages[k].fields) wr (hrf.kept hck.below.block (fun j hj => Nat.lt_of_lt_of_le hj hck.below.size)) (fields_one _) (by omega)
      obtain ⟨wa, rfl⟩ : ∃ wo : World, wo = wr := ⟨_, rfl⟩
      replace cF := Lib.hid cF; replace hck := Lib.hid hck; replace hown := Lib.hid hown; replace hmw := Lib.hid hmw; replace hmr' := Lib.hid hmr'; replace hrr := Lib.hid hrr; replace hrf := Lib.hid hrf; replace hcur := Lib.hid hcur; replace hdl := Lib.hid hdl
      go_wp2_with fail
      refine cF.out.mono ?_; rintro e w2 ⟨fA2, fc2, rfl, hf2, hb2⟩
      have hlg : g < wa.heap.size := by omega
      have hm2 := own_blk hown.out (w' := w2) (fun j hj => by obtain rfl : g = j := (by simpa [Value.ownBlock] using hj); exact hb2.block _ hlg)
      obtain ⟨cur2, hcur2⟩ := own_cells hm2
      have hfr2 : ∀ j, w2.frozen? ⟨g, j, none⟩ = false := blk_frozen hcur2
      have hc2 : w2.cell? ⟨g, k * 3 + 1, none⟩ = some (.slice fA x.messages[k].fields.length fc) := (World.cell?_of_block (w := wa) (hb2.block _ hlg)).trans c1
      have hG3 := grown_trans (grown_of_belowB hb2 (some g)) (setCell_grown w2 g (k * 3 + 1) (.slice fA2 x.messages[k].fields.length fc2))
      have hm3 := own_put1 hm2 (k * 3 + 1) (.slice fA2 x.messages[k].fields.length fc2)
      have hc3 := hm3.cellAt (k * 3 + 1) (by omega)
      rw [List.getElem?_set_self (by rw [hown.out.1]; omega)] at hc3
      have hf3 := own_set hf2 (a := ⟨g, k * 3 + 1, none⟩) hlg (.slice fA2 x.messages[k].fields.length fc2)
      have cS := sortStable_field wa.heap.size fA2 fc2 x.messages[k].fields _ hf3 hfit.1
      replace hb2 := Lib.hid hb2; replace hm2 := Lib.hid hm2; replace hf2 := Lib.hid hf2; replace hcur2 := Lib.hid hcur2; replace hG3 := Lib.hid hG3; replace hm3 := Lib.hid hm3; replace hf3 := Lib.hid hf3; replace cS := Lib.hid cS
      go_wp2_with fail
      refine cS.out.mono ?_; rintro e w4 ⟨rfl, hf4, hg4⟩
      have hbk4 : ∀ j, (Value.slice fA2 x.messages[k].fields.length fc2).ownBlock = some j → wa.heap.size ≤ j := fun j hj => (hf4.lt j hj).1
      have hG4 := grown_row hG3.out hg4 hbk4
      have hm4 := own_blk hm3.out (w' := w4) (fun j hj => by
        obtain rfl : g = j := (by simpa [Value.ownBlock] using hj)
        exact hg4.block _ (by have := hG3.out.size; omega) (fun e => by have := hbk4 _ e.symm; omega))
      have hc4 : w4.cell? ⟨g, k * 3 + 2, none⟩ = some (.slice rA x.messages[k].reserved.length rc) := by
        rw [hm4.cellAt (k * 3 + 2) (by omega), List.getElem?_set_ne (by omega), List.getElem?_append_right (by rw [hdl.out]; omega), hdl.out]; simp
      have hck4 := hck.out.turn hG4 (by omega)
      have cI := clone_int rA x.messages[k].reserved.length rc (intsCells x.messages[k].reserved) w4 (hrr.out.kept hck4.below.block (fun j hj => Nat.lt_of_lt_of_le hj hck4.below.size)) (ints_one _) (by omega)
      replace hG4 := Lib.hid hG4; replace hm4 := Lib.hid hm4; replace hf4 := Lib.hid hf4; replace hg4 := Lib.hid hg4; replace hck4 := Lib.hid hck4; replace cI := Lib.hid cI; replace hbk4 := Lib.hid hbk4
      clear hc3
      go_wp2_with fail
      refine cI.out.mono ?_; rintro e w5 ⟨rA2, rc2, rfl, hr5, hb5⟩
      have hlg4 : g < w4.heap.size := by have := hG4.out.size; omega
      have hm5 := own_blk hm4.out (w' := w5) (fun j hj => by obtain rfl : g = j := (by simpa [Value.ownBlock] using hj); exact hb5.block _ hlg4)
      obtain ⟨cur5, hcur5⟩ := own_cells hm5
      have hfr5 : ∀ j, w5.frozen? ⟨g, j, none⟩ = false := blk_frozen hcur5
      have hc5 : w5.cell? ⟨g, k * 3 + 2, none⟩ = some (.slice rA x.messages[k].reserved.length rc) := (World.cell?_of_block (w := w4) (hb5.block _ hlg4)).trans hc4
      have hG6 := grown_trans (grown_trans hG4.out (grown_of_belowB hb5 (some g))) (setCell_grown w5 g (k * 3 + 2) (.slice rA2 x.messages[k].reserved.length rc2))
      have hm6 := own_put1 hm5 (k * 3 + 2) (.slice rA2 x.messages[k].reserved.length rc2)
      have hc6 := hm6.cellAt (k * 3 + 2) (by omega)
      rw [List.getElem?_set_self (by rw [List.length_set, hown.out.1]; omega)] at hc6
      have hf5 := own_blk hf4.out (w' := w5) (fun j hj => hb5.block _ (hf4.out.lt j hj).2)
      have hf6 := own_set hf5 (a := ⟨g, k * 3 + 2, none⟩) hlg (.slice rA2 x.messages[k].reserved.length rc2)
      have hr6 := own_set hr5 (a := ⟨g, k * 3 + 2, none⟩) hlg4 (.slice rA2 x.messages[k].reserved.length rc2)
      have cT := sortInts_calls w4.heap.size rA2 rc2 x.messages[k].reserved _ hr6 (by omega)
      replace hb5 := Lib.hid hb5; replace hm5 := Lib.hid hm5; replace hf5 := Lib.hid hf5; replace hcur5 := Lib.hid hcur5; replace hG6 := Lib.hid hG6; replace hm6 := Lib.hid hm6; replace hf6 := Lib.hid hf6; replace hr5 := Lib.hid hr5; replace hr6 := Lib.hid hr6; replace cT := Lib.hid cT
      clear hc4
      go_wp2_with fail
      refine cT.out.mono ?_; rintro e w7 ⟨rfl, hr7, hg7⟩
      have hbk7 : ∀ j, (Value.slice rA2 x.messages[k].reserved.length rc2).ownBlock = some j → w4.heap.size ≤ j := fun j hj => (hr7.lt j hj).1
      have hG7 := grown_row hG6.out hg7 (fun j hj => Nat.le_trans (Nat.le_trans (by have := hG4.out.size; exact this) (hbk7 j hj)) (Nat.le_refl _))
      have hm7 := own_blk hm6.out (w' := w7) (fun j hj => by
        obtain rfl : g = j := (by simpa [Value.ownBlock] using hj)
        exact hg7.block _ (by have := hG6.out.size; omega) (fun e => by have := hbk7 _ e.symm; omega))
      have hf7 := own_blk hf6.out (w' := w7) (fun j hj => hg7.block _ (hf6.out.lt j hj).2 (fun e => by have := hbk7 _ e.symm; have := (hf4.out.lt j hj).2; omega))
      have hfin := Lib.hid (MsgTurn.step hlt hck.out hB (by omega) hgB' hmw.out hmr'.out hG7 hm7 hf7 (own_mono hr7 (by have := hG4.out.size; exact this)))
      replace hG7 := Lib.hid hG7; replace hm7 := Lib.hid hm7; replace hf7 := Lib.hid hf7; replace hr7 := Lib.hid hr7; replace hg7 := Lib.hid hg7; replace hbk7 := Lib.hid hbk7
      clear hc6
      go_wp2
      go_roundw
      case rel => exact ⟨k + 1, by omega, by go_num, hfin.out⟩
      case measure => simp [intOf]; omega
    · have hke : k = x.messages.length := by omega
      subst hke
      rw [List.drop_length] at hmr
      obtain rfl : rest0 = [] := hmr
      rw [List.take_length] at hmw
      rw [List.append_nil] at hown
      obtain ⟨wk, rfl⟩ : ∃ wo : World, wo = wr := ⟨_, rfl⟩
      have hcn := hck.next
      have hs1 := blk_cell hck.s 1
      have hs2 := blk_cell hck.s 2
      simp only [List.getElem?_toArray, List.getElem?_cons_succ, List.getElem?_cons_zero] at hs1 hs2
      have cE := clone_enumeration eA x.enums.length ec ecs wk (h2.out.kept hck.below.block (fun j hj => Nat.lt_of_lt_of_le hj hck.below.size)) h5.out.one (by omega)
      replace hck := Lib.hid hck; replace hcn := Lib.hid hcn; replace hown := Lib.hid hown; replace hmw := Lib.hid hmw; replace cE := Lib.hid cE; replace hgB := Lib.hid hgB
      go_wp2_with fail
      refine cE.out.mono ?_; rintro e w2 ⟨hA, hc, rfl, hoe, hb2⟩
      have hcn2 := hcn.out.under hb2
      have hj2 := blk_cell hcn2.s 2
      have hf2 := blk_frozen hcn2.s 2
      simp only [List.getElem?_toArray, List.getElem?_cons_succ, List.getElem?_cons_zero] at hj2
      have hcn3 : CanS w wk #[.string x.name, .slice gA x.messages.length gc, .slice hA x.enums.length hc, .slice cA x.methods.length cc] _ := hcn2.store 2 (.slice hA x.enums.length hc)
      have hj3 := blk_cell hcn3.s 2
      simp only [List.getElem?_toArray, List.getElem?_cons_succ, List.getElem?_cons_zero] at hj3
      have hbase := hcn.out.base
      replace hcn2 := Lib.hid hcn2; replace hcn3 := Lib.hid hcn3; replace hb2 := Lib.hid hb2; replace hoe := Lib.hid hoe
      clear hk1 hk2 hk3
      go_wp2
      go_loopw [55] (fun i wr => ∃ k : Nat, k ≤ x.enums.length ∧ i = .int .i64 k ∧ EnumTurn w wk w2.heap.size #[.string x.name, .slice gA x.messages.length gc, .slice hA x.enums.length hc, .slice cA x.methods.length cc] x (.slice hA x.enums.length hc) k wr) (fun i _ => x.enums.length - (intOf i).toNat)
      case atStart =>
        refine ⟨0, Nat.zero_le _, rfl, [], ecs, hcn3.out, by simp [World.setCell], ?_, fun g hg => (hoe.out.lt g hg).2, by simpa using h5.out, ?_⟩
        · exact own_set hoe.out (by simp only; omega) _
        · exact ⟨rfl, by simp [World.setCell]⟩
      case round =>
        obtain ⟨k, hk, rfl, done2, rest0, hcl, hB2, hoe2, hgB2, hmr2, hmw2⟩ := hrel
        by_cases hlt : k < x.enums.length
        · have hlt' : (k : Int) < (x.enums.length : Int) := by omega
          have hdl : done2.length = k * 2 := by rw [hmw2.length, List.length_map, List.length_take, Nat.min_eq_left (by omega)]
          rw [List.drop_eq_getElem_cons hlt] at hmr2
          obtain ⟨vf, rest, e1, hrf, hmr'⟩ := hmr2
          subst e1
          have hfit := hx.out.values x.enums[k] (List.getElem_mem hlt)
          obtain ⟨g, c, hv, _, hbase2⟩ := own_form hoe2 (by omega)
          injection hv with hv1 _ hv3
          subst hv1; subst hv3
          have hgB' : g < w2.heap.size := hgB2 g rfl
          obtain ⟨cur, hcur⟩ := own_cells hoe2
          obtain ⟨fA, fc, rfl⟩ := hrf.slice
          have c1 : wr.cell? ⟨g, k * 2 + 1, none⟩ = some (.slice fA x.enums[k].values.length fc) := by
            rw [hoe2.cellAt (k * 2 + 1) (by omega), List.getElem?_append_right (by omega), hdl]; simp
          have hs1 := blk_cell hcl.s 2
          simp only [List.getElem?_toArray, List.getElem?_cons_succ, List.getElem?_cons_zero] at hs1
          have cF := clone_named fA x.enums[k].values.length fc (namedsCells x.enums[k].values) wr (hrf.kept hcl.below.block (fun j hj => Nat.lt_of_lt_of_le hj hcl.below.size)) (nameds_one _) (by omega)
          obtain ⟨wa, rfl⟩ : ∃ wo : World, wo = wr := ⟨_, rfl⟩
          replace cF := Lib.hid cF; replace hcl := Lib.hid hcl; replace hoe2 := Lib.hid hoe2; replace hmw2 := Lib.hid hmw2; replace hmr' := Lib.hid hmr'; replace hrf := Lib.hid hrf; replace hcur := Lib.hid hcur; replace hdl := Lib.hid hdl
          go_wp2_with fail
          refine cF.out.mono ?_; rintro e w4 ⟨fA2, fc2, rfl, hf4, hb4⟩
          have hlg : g < wa.heap.size := by omega
          have hm4 := own_blk hoe2.out (w' := w4) (fun j hj => by obtain rfl : g = j := (by simpa [Value.ownBlock] using hj); exact hb4.block _ hlg)
          obtain ⟨cur2, hcur2⟩ := own_cells hm4
          have hfr2 : ∀ j, w4.frozen? ⟨g, j, none⟩ = false := blk_frozen hcur2
          have hc2 : w4.cell? ⟨g, k * 2 + 1, none⟩ = some (.slice fA x.enums[k].values.length fc) := (World.cell?_of_block (w := wa) (hb4.block _ hlg)).trans c1
          have hG5 := grown_trans (grown_of_belowB hb4 (some g)) (setCell_grown w4 g (k * 2 + 1) (.slice fA2 x.enums[k].values.length fc2))
          have hm5 := own_put1 hm4 (k * 2 + 1) (.slice fA2 x.enums[k].values.length fc2)
          have hc5 := hm5.cellAt (k * 2 + 1) (by omega)
          rw [List.getElem?_set_self (by rw [hoe2.out.1]; omega)] at hc5
          have hf5 := own_set hf4 (a := ⟨g, k * 2 + 1, none⟩) hlg (.slice fA2 x.enums[k].values.length fc2)
          have cS := sortStable_named wa.heap.size fA2 fc2 x.enums[k].values _ hf5 hfit
          replace hb4 := Lib.hid hb4; replace hm4 := Lib.hid hm4; replace hf4 := Lib.hid hf4; replace hcur2 := Lib.hid hcur2; replace hG5 := Lib.hid hG5; replace hm5 := Lib.hid hm5; replace hf5 := Lib.hid hf5; replace cS := Lib.hid cS
          go_wp2_with fail
          refine cS.out.mono ?_; rintro e w6 ⟨rfl, hf6, hg6⟩
          have hbk6 : ∀ j, (Value.slice fA2 x.enums[k].values.length fc2).ownBlock = some j → wa.heap.size ≤ j := fun j hj => (hf6.lt j hj).1
          have hG6 := grown_row hG5.out hg6 hbk6
          have hm6 := own_blk hm5.out (w' := w6) (fun j hj => by
            obtain rfl : g = j := (by simpa [Value.ownBlock] using hj)
            exact hg6.block _ (by have := hG5.out.size; omega) (fun e => by have := hbk6 _ e.symm; omega))
          have hfin := Lib.hid (EnumTurn.step hlt hcl.out hB2 hbase2 hgB' hmw2.out hmr'.out hG6 hm6 hf6)
          replace hG6 := Lib.hid hG6; replace hm6 := Lib.hid hm6; replace hf6 := Lib.hid hf6; replace hg6 := Lib.hid hg6; replace hbk6 := Lib.hid hbk6
          clear hc5
          go_wp2
          go_roundw
          case rel => exact ⟨k + 1, by omega, by go_num, hfin.out⟩
          case measure => simp [intOf]; omega
        · have hke : k = x.enums.length := by omega
          subst hke
          rw [List.drop_length] at hmr2
          obtain rfl : rest0 = [] := hmr2
          rw [List.take_length] at hmw2
          rw [List.append_nil] at hoe2
          obtain ⟨wl, rfl⟩ : ∃ wo : World, wo = wr := ⟨_, rfl⟩
          have hs3 := blk_cell hcl.s 3
          simp only [List.getElem?_toArray, List.getElem?_cons_succ, List.getElem?_cons_zero] at hs3
          have cC := clone_method cA x.methods.length cc (methodsCells x.methods) wl (h3.out.kept hcl.below.block (fun j hj => Nat.lt_of_lt_of_le hj hcl.below.size)) (methods_one _) (by omega)
          have hszl := hcl.size
          replace hcl := Lib.hid hcl; replace hoe2 := Lib.hid hoe2; replace hmw2 := Lib.hid hmw2; replace cC := Lib.hid cC; replace hgB2 := Lib.hid hgB2
          clear hj2 hj3 hs1 hs2
          go_wp2_with fail
          refine cC.out.mono ?_; rintro e w4 ⟨iA, ic, rfl, hom, hb4⟩
          have hcl4 := hcl.out.under hb4
          have hu3 := blk_cell hcl4.s 3
          have hv3 := blk_frozen hcl4.s 3
          simp only [List.getElem?_toArray, List.getElem?_cons_succ, List.getElem?_cons_zero] at hu3
          have hcl5 : CanS w wk #[.string x.name, .slice gA x.messages.length gc, .slice hA x.enums.length hc, .slice iA x.methods.length ic] _ := hcl4.store 3 (.slice iA x.methods.length ic)
          have hx0 := blk_cell hcl5.s 0
          have hx1 := blk_cell hcl5.s 1
          have hx2 := blk_cell hcl5.s 2
          have hx3 := blk_cell hcl5.s 3
          have hy0 := blk_cell hcl5.r 0
          have hy1 := blk_cell hcl5.r 1
          have hy2 := blk_cell hcl5.r 2
          have hy3 := blk_cell hcl5.r 3
          have hz := blk_frozen hcl5.r
          simp only [List.getElem?_toArray, List.getElem?_cons_succ, List.getElem?_cons_zero] at hx0 hx1 hx2 hx3 hy0 hy1 hy2 hy3
          have hfin : Hid (OwnSchema (w4.setCell ⟨w.heap.size, 3, none⟩ (.slice iA x.methods.length ic)) (w.heap.size + 2) (w4.setCell ⟨w.heap.size, 3, none⟩ (.slice iA x.methods.length ic)).heap.size (canonP x) (.slice gA x.messages.length gc) (.slice hA x.enums.length hc) (.slice iA x.methods.length ic)) := Lib.hid (by
            have hB1 : w.heap.size + 2 ≤ w1.heap.size := by have := hck1.out.size; omega
            have hsz4 := hb4.size
            have hsz5 : (w4.setCell ⟨w.heap.size, 3, none⟩ (.slice iA x.methods.length ic)).heap.size = w4.heap.size := by simp [World.setCell]
            refine ⟨done, done2, ?_, ?_, ?_, ?_, ?_⟩
            · show World.ownsRow _ _ _ _ _ (x.messages.map canonM).length _
              rw [List.length_map]
              exact own_blk hown.out (fun g hg => hcl5.kept g (hown.out.lt g hg).1 (hown.out.lt g hg).2)
            · show World.ownsRow _ _ _ _ _ (x.enums.map canonE).length _
              rw [List.length_map]
              exact own_set (own_mono (own_blk hoe2.out (fun g hg => hb4.block g (hoe2.out.lt g hg).2)) hbase) (by simp only; omega) _
            · exact own_set (own_mono hom (by omega)) (by simp only; omega) _
            · exact (MsgRow.range (fun b h6 h7 => hcl5.kept b (by omega) h7) hmw.out).wider (by omega) hB1
            · refine (EnumRow.range (w' := w4.setCell ⟨w.heap.size, 3, none⟩ (.slice iA x.methods.length ic)) (fun b h6 h7 => (Below.heap_setCell _ _ _ _ (by simp only; have := hb2.out.size; omega)).trans (hb4.block b h7)) hmw2.out).wider (by omega) (by have := hb2.out.size; omega))
          have hbl := Lib.hid hcl5.below
          replace hcl4 := Lib.hid hcl4; replace hcl5 := Lib.hid hcl5; replace hom := Lib.hid hom; replace hb4 := Lib.hid hb4
          go_wp2
          refine bodyPost_ret (v := .agg #[.string x.name, .slice gA x.messages.length gc, .slice hA x.enums.length hc, .slice iA x.methods.length ic]) (by simp [results, Tryz.results13, go_sem, *]) rfl ?_
          refine ⟨_, _, _, rfl, ?_, ?_⟩
          · exact (((hfin.out.same (fun j hj => set4_same (b := w.heap.size + 1) _ _ _ _ j (by omega))).wider (by omega) (by simp [World.setCell])))
          · exact hbl.out.setCell (by simp) _ |>.setCell (by simp) _ |>.setCell (by simp) _ |>.setCell (by simp) _

end Go.Proofs.YtkpgaccgcdoijaaGreatDoor

namespace Go.Proofs.YtkpgaccgcdoijaaGreatDoor
open Go.RowKit

/-! ### lines of a text -/
def wordsB (ws : List ByteArray) : List UInt8 := ws.flatMap (·.data.toList)
theorem wordsB_append (a b : List ByteArray) : wordsB (a ++ b) = wordsB a ++ wordsB b := List.flatMap_append
theorem wordsB_one (s : ByteArray) : wordsB [s] = s.data.toList := by simp [wordsB]
def lineB (ws : List ByteArray) : List UInt8 := wordsB ws ++ [10]
theorem byteCells_append (a b : List UInt8) : Lib.byteCells (a ++ b) = Lib.byteCells a ++ Lib.byteCells b := by simp [Lib.byteCells]
theorem byteCells_str (a : List UInt8) (s : ByteArray) : Lib.byteCells a ++ Lib.strCells s = Lib.byteCells (a ++ s.data.toList) := by
  rw [byteCells_append]; rfl

/-- A block that no builder's writing turns. -/
def Solid (b : Nat) (w : World) (k : Nat) : Prop := k ≠ b ∧ ∃ c e fr, w.heap[k]? = some (.cells c e fr) ∧ e ≠ 5
theorem Solid.same {b k : Nat} {w w' : World} (h : Solid b w k) (ho : Lib.OthersKept 5 (some b) w w') : w'.heap[k]? = w.heap[k]? := by
  obtain ⟨h1, c, e, fr, h2, h3⟩ := h
  rw [ho k _ h2 (by intro hh; injection hh with hh; exact h1 hh) (by intro c' fz hh; injection hh with _ hh _; exact h3 hh), h2]
theorem Solid.kept {b k : Nat} {w w' : World} (h : Solid b w k) (ho : Lib.OthersKept 5 (some b) w w') : Solid b w' k := by
  have hs := h.same ho
  obtain ⟨h1, c, e, fr, h2, h3⟩ := h
  exact ⟨h1, c, e, fr, hs.trans h2, h3⟩
theorem others_below {b : Nat} {w w' : World} (h : Below w.heap.size w w') : Lib.OthersKept 5 (some b) w w' := fun k o hk _ _ => (h.block k (Array.getElem?_eq_some_iff.1 hk).1).trans hk

/-- A text under way: block b, its bytes t, rows from B on; nothing else that stood in w0 has turned. -/
structure Txt (w0 : World) (B b : Nat) (t : List UInt8) (w : World) : Prop where
  bld : Lib.IsBuilderF 76 5 B b (Lib.byteCells t) w
  below : Below B w0 w
  others : Lib.OthersKept 5 (some b) w0 w
  size : w0.heap.size ≤ w.heap.size
  base : B ≤ w0.heap.size
theorem Txt.wrote {w0 : World} {B b : Nat} {t t' : List UInt8} {w w' : World} (h : Txt w0 B b t w) (h2 : Wrote B b (Lib.byteCells t') w w') : Txt w0 B b t' w' :=
  ⟨.inr h2.1, h.below.trans h2.2.1, h.others.trans h2.2.2, Nat.le_trans h.size h2.2.1.size, h.base⟩

set_option maxHeartbeats 2000000 in
set_option maxRecDepth 100000 in
theorem line_calls (w0 : World) (B b kw cap : Nat) (t : List UInt8) (ws : List ByteArray) (w : World) (h : Txt w0 B b t w) (hS : Solid b w kw) (hws : ∀ j s, ws[j]? = some s → w.cell? ⟨kw, j, none⟩ = some (.string s)) (hl : (t ++ lineB ws).length ≤ 140737488355328) (hn : ws.length ≤ 1000) :
    Calls Tryz.prog 37 #[.pointer (some ⟨b, 0, none⟩), .slice (some ⟨kw, 0, none⟩) ws.length cap] w fun e w' => e = .returned (.tuple #[]) ∧ Txt w0 B b (t ++ lineB ws) w' ∧ Lib.OthersKept 5 (some b) w w' := by
  have hT := Lib.hid h
  replace h := Lib.hid h
  replace hS := Lib.hid hS
  replace hws := Lib.hid hws
  replace hl := Lib.hid hl
  go_enter Tryz.func37, Tryz.ntmps37
  go_wp2
  go_loopw [8] (fun i wr => ∃ k : Nat, k ≤ ws.length ∧ i = .int .i64 k ∧ Txt w0 B b (t ++ wordsB (ws.take k)) wr ∧ Lib.OthersKept 5 (some b) w wr) (fun i _ => ws.length - (intOf i).toNat)
  case atStart => exact ⟨0, Nat.zero_le _, rfl, by simpa [wordsB] using h.out, Lib.OthersKept.refl _ _ _⟩
  case round =>
    obtain ⟨k, hk, rfl, htx, hok⟩ := hrel
    by_cases hlt : k < ws.length
    · have hlt' : (k : Int) < (ws.length : Int) := by omega
      have hc : wr.cell? ⟨kw, k, none⟩ = some (.string ws[k]) := (World.cell?_of_block (w := w) (hS.out.same hok)).trans (hws.out k _ (List.getElem?_eq_getElem hlt))
      have htk : wordsB (ws.take (k + 1)) = wordsB (ws.take k) ++ ws[k].data.toList := by
        rw [List.take_succ_eq_append_getElem hlt, wordsB_append, wordsB_one]
      have hlen : (t ++ wordsB (ws.take (k + 1))).length ≤ 140737488355328 := by
        have h1 := hl.out
        have h2 : wordsB ws = wordsB (ws.take (k + 1)) ++ wordsB (ws.drop (k + 1)) := by
          rw [← wordsB_append, List.take_append_drop]
        simp only [lineB, h2, List.length_append] at h1 ⊢
        omega
      rw [htk, ← List.append_assoc] at hlen
      rw [List.length_append] at hlen
      have cW := writeString_calls B b (Lib.byteCells (t ++ wordsB (ws.take k))) ws[k] wr htx.bld (by rw [Lib.byteCells_length]; simpa using hlen) (Nat.le_trans htx.base htx.size)
      rw [byteCells_str, List.append_assoc, ← htk] at cW
      obtain ⟨wa, rfl⟩ : ∃ wo : World, wo = wr := ⟨_, rfl⟩
      replace cW := Lib.hid cW; replace htx := Lib.hid htx; replace hok := Lib.hid hok; replace htk := Lib.hid htk
      go_wp2_with fail
      refine cW.out.mono ?_; rintro e w2 ⟨rfl, hw2⟩
      have hfin := Lib.hid (htx.out.wrote hw2)
      have hok2 := Lib.hid (hok.out.trans hw2.2.2)
      replace hw2 := Lib.hid hw2
      go_wp2
      go_roundw
      case rel => exact ⟨k + 1, by omega, by go_num, hfin.out, hok2.out⟩
      case measure => simp [intOf]; omega
    · have hke : k = ws.length := by omega
      subst hke
      rw [List.take_length] at htx
      have cW := writeByte_calls B b (Lib.byteCells (t ++ wordsB ws)) 10 wr htx.bld (by have := hl.out; simp only [lineB, ← List.append_assoc] at this; simp only [List.length_append, List.length_singleton] at this; rw [Lib.byteCells_length, List.length_append]; omega) (Nat.le_trans htx.base htx.size)
      have he : Lib.byteCells (t ++ wordsB ws) ++ [.int .u8 10] = Lib.byteCells (t ++ lineB ws) := by
        rw [lineB, ← List.append_assoc, byteCells_append (t ++ wordsB ws)]; rfl
      rw [he] at cW
      obtain ⟨wa, rfl⟩ : ∃ wo : World, wo = wr := ⟨_, rfl⟩
      replace cW := Lib.hid cW; replace htx := Lib.hid htx; replace hok := Lib.hid hok; replace he := Lib.hid he
      go_wp2_with fail
      refine cW.out.mono ?_; rintro e w2 ⟨rfl, hw2⟩
      have hfin := Lib.hid (htx.out.wrote hw2)
      have hok2 := Lib.hid (hok.out.trans hw2.2.2)
      replace hw2 := Lib.hid hw2
      go_wp2
      go_end0
      exact ⟨rfl, hfin.out, hok2.out⟩

end Go.Proofs.YtkpgaccgcdoijaaGreatDoor

namespace Go.Proofs.YtkpgaccgcdoijaaGreatDoor
open Go.RowKit

/-! ### a schema's text, in plain Lean -/
def w_schemaB : ByteArray := ⟨#[115, 99, 104, 101, 109, 97, 32]⟩
def w_messageB : ByteArray := ⟨#[109, 101, 115, 115, 97, 103, 101, 32]⟩
def w_openB : ByteArray := ⟨#[32, 123]⟩
def w_two : ByteArray := ⟨#[32, 32]⟩
def w_one : ByteArray := ⟨#[32]⟩
def w_is : ByteArray := ⟨#[32, 61, 32]⟩
def w_resB : ByteArray := ⟨#[32, 32, 114, 101, 115, 101, 114, 118, 101, 100, 32]⟩
def w_sep : ByteArray := ⟨#[44, 32]⟩
def w_enumB : ByteArray := ⟨#[101, 110, 117, 109, 32]⟩
def w_callB : ByteArray := ⟨#[99, 97, 108, 108, 32]⟩
def w_par : ByteArray := ⟨#[40]⟩
def w_retB : ByteArray := ⟨#[41, 32, 114, 101, 116, 117, 114, 110, 115, 32, 40]⟩
def w_endB : ByteArray := ⟨#[41, 59]⟩
def itoaB (n : Int) : ByteArray := ⟨(Lib.itoa n).toArray⟩
def joinB (l : List Int) : ByteArray := ⟨(Lib.join ((l.map itoaB).map (·.data.toList)) w_sep.data.toList).toArray⟩
def headL (x : SchemaD) : List UInt8 := lineB [w_schemaB, x.name, w_semi]
def fieldL (f : FieldD) : List UInt8 := lineB [w_two, labelP f.label, kindP f.kind f.tname, w_one, f.name, w_is, itoaB f.tag, w_semi]
def resL (l : List Int) : List UInt8 := if l.length = 0 then [] else lineB [w_resB, joinB l, w_semi]
def msgL (m : MessageD) : List UInt8 := lineB [w_messageB, m.name, w_openB] ++ (m.fields.flatMap fieldL ++ (resL m.reserved ++ lineB [w_rbrace]))
def valL (v : NamedD) : List UInt8 := lineB [w_two, v.name, w_is, itoaB v.n, w_semi]
def enumL (e : EnumD) : List UInt8 := lineB [w_enumB, e.name, w_openB] ++ (e.values.flatMap valL ++ lineB [w_rbrace])
def methL (c : MethodD) : List UInt8 := lineB [w_callB, c.name, w_par, c.inp, w_retB, c.outp, w_endB]
/-- The text of a schema that is in order. -/
def textL (x : SchemaD) : List UInt8 := headL x ++ (x.messages.flatMap msgL ++ (x.enums.flatMap enumL ++ x.methods.flatMap methL))
def printP (x : SchemaD) : List UInt8 := textL (canonP x)
theorem headL_ne (x : SchemaD) : textL x ≠ [] := by
  unfold textL headL lineB
  intro h
  simp at h

theorem sortBy_mem {α : Type} (key : α → Int) (l : List α) (a : α) : a ∈ sortBy key l ↔ a ∈ l := (sortBy_perm key l).mem_iff
theorem canon_fit {x : SchemaD} (h : x.Fit) : (canonP x).Fit := by
  refine ⟨h.name, fun m hm => ?_, fun m hm => ?_, h.methods⟩
  · obtain ⟨m0, h0, rfl⟩ := List.mem_map.1 hm
    have hf := h.messages m0 h0
    exact ⟨hf.name, fun f hf0 => hf.fields f ((sortBy_mem _ _ _).1 hf0), fun n hn => hf.reserved n ((sortBy_mem _ _ _).1 hn)⟩
  · obtain ⟨m0, h0, rfl⟩ := List.mem_map.1 hm
    have hf := h.enums m0 h0
    exact ⟨hf.name, fun f hf0 => hf.values f ((sortBy_mem _ _ _).1 hf0)⟩
theorem canon_modest {x : SchemaD} (h : x.Modest) : (canonP x).Modest := by
  refine ⟨by simpa [canonP] using h.messages, by simpa [canonP] using h.enums, h.methods, fun m hm => ?_, fun m hm => ?_⟩
  · obtain ⟨m0, h0, rfl⟩ := List.mem_map.1 hm
    have := h.fields m0 h0
    simpa [canonM, sortBy_length] using this
  · obtain ⟨m0, h0, rfl⟩ := List.mem_map.1 hm
    have := h.values m0 h0
    simpa [canonE, sortBy_length] using this

/-! ### the text under way -/
theorem bld_below {B b : Nat} {bs : List Value} {w w' : World} (h : Lib.IsBuilderF 76 5 B b bs w) (hb : Below w.heap.size w w') : Lib.IsBuilderF 76 5 B b bs w' := by
  have hk : ∀ p, Lib.BuilderAtF 76 5 B b p bs w → Lib.BuilderAtF 76 5 B b p bs w' := by
    rintro p ⟨h1, v, h2, h3, h4⟩
    refine ⟨h1, v, (hb.block b (Array.getElem?_eq_some_iff.1 h2).1).trans h2, h3.kept (grown_of_belowB hb none) ?_, h4⟩
    cases v.ownBlock <;> simp
  rcases h with h | h
  · exact .inl (hk _ h)
  · exact .inr (hk _ h)
theorem Txt.under {w0 : World} {B b : Nat} {t : List UInt8} {w w' : World} (h : Txt w0 B b t w) (hb : Below w.heap.size w w') : Txt w0 B b t w' :=
  ⟨bld_below h.bld hb, h.below.trans (hb.mono (Nat.le_trans h.base h.size)), h.others.trans (others_below hb), Nat.le_trans h.size hb.size, h.base⟩
theorem Txt.alloc {w0 : World} {B b : Nat} {t : List UInt8} {w : World} (h : Txt w0 B b t w) (o : Obj) : Txt w0 B b t (w.alloc o) := h.under ((Below.refl _ w).alloc (Nat.le_refl _) o)
theorem Txt.drew {w0 : World} {B b : Nat} {t : List UInt8} {w : World} (h : Txt w0 B b t w) : Txt w0 B b t w.drew := h.under (Below.refl _ w).drew

/-- A line of words that have just been built. -/
theorem line_at (w0 : World) (B b n : Nat) (t : List UInt8) (ws : List ByteArray) (w : World) (h : Txt w0 B b t w) (hl : (t ++ lineB ws).length ≤ 140737488355328) (hn : ws.length = n) (hn2 : n ≤ 1000) :
    Calls Tryz.prog 37 #[.pointer (some ⟨b, 0, none⟩), .slice (some ⟨w.heap.size, 0, none⟩) n n] (w.alloc (.cells (ws.map Value.string).toArray 9)) fun e w' => e = .returned (.tuple #[]) ∧ Txt w0 B b (t ++ lineB ws) w' ∧ Lib.OthersKept 5 (some b) w w' := by
  subst hn
  have hb : b < w.heap.size := by
    rcases h.bld with h1 | h1 <;> exact h1.lt
  have hnew := heap_alloc_new w (.cells (ws.map Value.string).toArray 9)
  refine (line_calls w0 B b w.heap.size ws.length t ws _ (h.alloc _) ⟨by omega, _, _, _, hnew, by decide⟩ (fun j s hj => ?_) hl hn2).mono ?_
  · rw [blk_cell hnew j]
    simp [hj]
  · rintro e w' ⟨rfl, h1, h2⟩
    exact ⟨rfl, h1, ((Lib.OthersKept.refl _ _ w).alloc _).trans h2⟩

/-- The text as it stands, and what is still to come of the whole. -/
def TxtAt (w0 : World) (b : Nat) (rem total : List UInt8) (w : World) : Prop := ∃ t, Txt w0 b b t w ∧ t ++ rem = total
theorem TxtAt.under {w0 : World} {b : Nat} {rem total : List UInt8} {w w' : World} (h : TxtAt w0 b rem total w) (hb : Below w.heap.size w w') : TxtAt w0 b rem total w' := by
  obtain ⟨t, h1, h2⟩ := h
  exact ⟨t, h1.under hb, h2⟩
theorem TxtAt.alloc {w0 : World} {b : Nat} {rem total : List UInt8} {w : World} (h : TxtAt w0 b rem total w) (o : Obj) : TxtAt w0 b rem total (w.alloc o) := h.under ((Below.refl _ w).alloc (Nat.le_refl _) o)
theorem TxtAt.below {w0 : World} {b : Nat} {rem total : List UInt8} {w : World} (h : TxtAt w0 b rem total w) : Below b w0 w := h.choose_spec.1.below
theorem TxtAt.lt {w0 : World} {b : Nat} {rem total : List UInt8} {w : World} (h : TxtAt w0 b rem total w) : b < w.heap.size := by
  obtain ⟨t, h1, _⟩ := h
  rcases h1.bld with h1 | h1 <;> exact h1.lt
theorem TxtAt.eq {w0 : World} {b : Nat} {rem rem' total : List UInt8} {w : World} (h : TxtAt w0 b rem total w) (he : rem = rem') : TxtAt w0 b rem' total w := he ▸ h
theorem line_turn (w0 : World) (b n : Nat) (ws : List ByteArray) (rem total : List UInt8) (w : World) (h : TxtAt w0 b (lineB ws ++ rem) total w) (hl : total.length ≤ 140737488355328) (hn : ws.length = n) (hn2 : n ≤ 1000) :
    Calls Tryz.prog 37 #[.pointer (some ⟨b, 0, none⟩), .slice (some ⟨w.heap.size, 0, none⟩) n n] (w.alloc (.cells (ws.map Value.string).toArray 9)) fun e w' => e = .returned (.tuple #[]) ∧ TxtAt w0 b rem total w' ∧ Lib.OthersKept 5 (some b) w w' := by
  obtain ⟨t, h1, h2⟩ := h
  refine (line_at w0 b b n t ws w h1 (by rw [← h2] at hl; simp only [List.length_append] at hl ⊢; omega) hn hn2).mono ?_
  rintro e w' ⟨rfl, h3, h4⟩
  exact ⟨rfl, ⟨_, h3, by rw [List.append_assoc]; exact h2⟩, h4⟩

end Go.Proofs.YtkpgaccgcdoijaaGreatDoor

import Derived.Test.YtkpgaccgcdoijaaGreatDoorZOrd
namespace Go.Proofs.YtkpgaccgcdoijaaGreatDoor
open Go.RowKit

/-- What can be copied. -/
structure SchemaD.Mild (x : SchemaD) : Prop where
  messages : x.messages.length ≤ 1000
  enums : x.enums.length ≤ 1000
  methods : x.methods.length ≤ 1000
  fields : ∀ m ∈ x.messages, m.fields.length ≤ 20 ∧ m.reserved.length ≤ 1000
  values : ∀ m ∈ x.enums, m.values.length ≤ 24
theorem SchemaD.Modest.mild {x : SchemaD} (h : x.Modest) : x.Mild := ⟨h.messages, h.enums, h.methods, h.fields, fun m hm => Nat.le_trans (h.values m hm) (by decide)⟩

/-! ### laws00.Schema -/
theorem bcell {W w1 : World} (hb : Below W.heap.size W w1) : (∀ b o, b < W.heap.size → w1.cell? ⟨b, o, none⟩ = W.cell? ⟨b, o, none⟩) ∧ (∀ b o, b < W.heap.size → w1.frozen? ⟨b, o, none⟩ = W.frozen? ⟨b, o, none⟩) :=
  ⟨fun b o h => hb.cell (p := ⟨b, o, none⟩) h, fun b o h => hb.frozen (p := ⟨b, o, none⟩) h⟩
structure SchA (w : World) (cs : Array Value) (W : World) : Prop where
  below : Below w.heap.size w W
  s : W.heap[w.heap.size]? = some (.cells cs 26 (0, 0))
  r : W.heap[w.heap.size + 1]? = some (.cells #[.string noText, .slice none 0 0, .slice none 0 0, .slice none 0 0] 26 (0, 0))
  size : w.heap.size + 2 ≤ W.heap.size
theorem SchA.turn {w : World} {cs : Array Value} {wr w2 : World} {g : Nat} (h : SchA w cs wr) (h2 : wr.grownBy w2 (some g)) (hg : w.heap.size + 2 ≤ g) : SchA w cs w2 := by
  have hs := h.size
  refine ⟨h.below.grown h2 (by omega) (fun k hk => by cases hk; omega), (h2.block _ (by omega) ?_).trans h.s, (h2.block _ (by omega) ?_).trans h.r, Nat.le_trans hs h2.size⟩
  all_goals (intro e; injection e with e; omega)
theorem SchA.under {w : World} {cs : Array Value} {wr w2 : World} (h : SchA w cs wr) (hb : Below wr.heap.size wr w2) : SchA w cs w2 := h.turn (grown_of_belowB hb (some wr.heap.size)) h.size
theorem SchA.alloc {w : World} {cs : Array Value} {wr : World} (h : SchA w cs wr) (o : Obj) : SchA w cs (wr.alloc o) := h.under ((Below.refl _ wr).alloc (Nat.le_refl _) o)
theorem SchA.drew {w : World} {cs : Array Value} {wr : World} (h : SchA w cs wr) : SchA w cs wr.drew := h.under (Below.refl _ wr).drew
theorem SchA.set {w : World} {cs : Array Value} {wr : World} (h : SchA w cs wr) {g i : Nat} (hg : w.heap.size + 2 ≤ g) (v : Value) : SchA w cs (wr.setCell ⟨g, i, none⟩ v) := h.turn (setCell_grown _ _ _ _) hg
def Cells4 (b : Nat) (a0 a1 a2 a3 : Value) (W : World) : Prop := W.cell? ⟨b, 0, none⟩ = some a0 ∧ W.cell? ⟨b, 1, none⟩ = some a1 ∧ W.cell? ⟨b, 2, none⟩ = some a2 ∧ W.cell? ⟨b, 3, none⟩ = some a3
theorem SchA.cells {w : World} {a0 a1 a2 a3 : Value} {W : World} (h : SchA w #[a0, a1, a2, a3] W) : Cells4 w.heap.size a0 a1 a2 a3 W := ⟨blk_cell h.s 0, blk_cell h.s 1, blk_cell h.s 2, blk_cell h.s 3⟩

/-- The copy's block bt: name, messages, enumerations, methods. -/
def TopS (w : World) (cs : Array Value) (x : SchemaD) (t : Value) (vm ve : Value) (W : World) : Prop :=
  ∃ bt vc, t = .pointer (some ⟨bt, 0, none⟩) ∧ w.heap.size + 2 ≤ bt ∧ SchA w cs W ∧ W.heap[bt]? = some (.cells #[.string x.name, vm, ve, vc] 26 (0, 0)) ∧ W.ownsRow (w.heap.size + 2) 54 3 vc x.methods.length (methodsCells x.methods)

theorem TopS.ahead {w W w2 : World} {cs : Array Value} {x : SchemaD} {dA : Option Addr} {dc b : Nat} (hA : SchA w cs w2) (hom : w2.ownsRow W.heap.size 54 3 (.slice dA x.methods.length dc) x.methods.length (methodsCells x.methods)) (hb2 : Below W.heap.size W w2)
    (hbk : W.heap[b]? = some (.cells #[.string noText, .slice none 0 0, .slice none 0 0, .slice none 0 0] 26 (0, 0))) (hb : w.heap.size + 2 ≤ b) :
    TopS w cs x (.pointer (some ⟨b, 0, none⟩)) (.slice none 0 0) (.slice none 0 0) ((((w2.setCell ⟨b, 0, none⟩ (.string x.name)).setCell ⟨b, 1, none⟩ (.slice none 0 0)).setCell ⟨b, 2, none⟩ (.slice none 0 0)).setCell ⟨b, 3, none⟩ (.slice dA x.methods.length dc)) := by
  have hlt := blk_lt hbk
  have h2 := (hb2.block b hlt).trans hbk
  exact ⟨b, _, rfl, hb, (((hA.set hb _).set hb _).set hb _).set hb _, set4_blk h2 _ _ _ _, own_mono (own_set (own_set (own_set (own_set hom hlt _) hlt _) hlt _) hlt _) (by omega)⟩
theorem TopS.behind {w W w2 : World} {cs : Array Value} {x : SchemaD} {dA : Option Addr} {dc : Nat} (hA : SchA w cs w2) (hom : w2.ownsRow W.heap.size 54 3 (.slice dA x.methods.length dc) x.methods.length (methodsCells x.methods)) (hW : w.heap.size + 2 ≤ W.heap.size) :
    TopS w cs x (.pointer (some ⟨w2.heap.size, 0, none⟩)) (.slice none 0 0) (.slice none 0 0) (w2.alloc (.cells #[.string x.name, .slice none 0 0, .slice none 0 0, .slice dA x.methods.length dc] 26)) :=
  ⟨w2.heap.size, _, rfl, hA.size, hA.alloc _, heap_alloc_new _ _, own_mono (hom.alloc _) hW⟩

/-- The first k messages have been copied. -/
structure CopyM (w : World) (cs : Array Value) (x : SchemaD) (bt : Nat) (vc vm : Value) (k : Nat) (mcs : List Value) (W : World) : Prop where
  a : SchA w cs W
  t : W.heap[bt]? = some (.cells #[.string x.name, vm, .slice none 0 0, vc] 26 (0, 0))
  meth : W.ownsRow (w.heap.size + 2) 54 3 vc x.methods.length (methodsCells x.methods)
  row : W.ownsRow (w.heap.size + 2) 40 3 vm k mcs
  msgs : MsgRow W W.heap.size (w.heap.size + 2) (x.messages.take k) mcs
theorem below_on {W0 W W' : World} (h : Below W0.heap.size W0 W) (h2 : Below W.heap.size W W') : Below W0.heap.size W0 W' := h.trans (h2.mono h.size)
def Cells3 (b : Nat) (a0 a1 a2 : Value) (W : World) : Prop := W.cell? ⟨b, 0, none⟩ = some a0 ∧ W.cell? ⟨b, 1, none⟩ = some a1 ∧ W.cell? ⟨b, 2, none⟩ = some a2
theorem cells3_of {b : Nat} {a0 a1 a2 : Value} {T : TypeId} {W : World} (h : W.heap[b]? = some (.cells #[a0, a1, a2] T (0, 0))) : Cells3 b a0 a1 a2 W := ⟨blk_cell h 0, blk_cell h 1, blk_cell h 2⟩
theorem Cells3.set {b g i : Nat} {a0 a1 a2 : Value} {W : World} (h : Cells3 b a0 a1 a2 W) (hne : b ≠ g) (v : Value) : Cells3 b a0 a1 a2 (W.setCell ⟨g, i, none⟩ v) := by
  have hk : ∀ j, (W.setCell ⟨g, i, none⟩ v).cell? ⟨b, j, none⟩ = W.cell? ⟨b, j, none⟩ := fun j => World.cell?_of_block (w := W) (Below.heap_setCell _ _ _ _ hne)
  exact ⟨(hk 0).trans h.1, (hk 1).trans h.2.1, (hk 2).trans h.2.2⟩
theorem Cells3.grown {b : Nat} {a0 a1 a2 : Value} {W W' : World} {o : Option Nat} (h : Cells3 b a0 a1 a2 W) (hg : W.grownBy W' o) (hb : b < W.heap.size) (hne : some b ≠ o) : Cells3 b a0 a1 a2 W' := by
  have hk : ∀ j, W'.cell? ⟨b, j, none⟩ = W.cell? ⟨b, j, none⟩ := fun j => World.cell?_of_block (w := W) (hg.block b hb hne)
  exact ⟨(hk 0).trans h.1, (hk 1).trans h.2.1, (hk 2).trans h.2.2⟩
/-- A message more. -/
theorem CopyM.step {w : World} {cs : Array Value} {x : SchemaD} {bt : Nat} {vc vm : Value} {k : Nat} {mcs : List Value} {wr W3 w4 : World} {o : Obj} {fA rA A : Option Addr} {fc rc c : Nat} (hbt : w.heap.size + 2 ≤ bt) (hk : k < x.messages.length) (h : CopyM w cs x bt vc vm k mcs wr)
    (hB : Below (wr.alloc o).heap.size (wr.alloc o) W3)
    (hf : W3.ownsRow wr.heap.size 44 5 (.slice fA x.messages[k].fields.length fc) x.messages[k].fields.length (fieldsCells x.messages[k].fields))
    (hr : W3.ownsRow wr.heap.size 3 1 (.slice rA x.messages[k].reserved.length rc) x.messages[k].reserved.length (intsCells x.messages[k].reserved))
    (hrow : w4.ownsRow (w.heap.size + 2) 40 3 (.slice A (k + 1) c) (k + 1) (mcs ++ [.string x.messages[k].name, .slice fA x.messages[k].fields.length fc, .slice rA x.messages[k].reserved.length rc]))
    (hg : W3.grownBy w4 vm.ownBlock) :
    CopyM w cs x bt vc (.slice A (k + 1) c) (k + 1) (mcs ++ [.string x.messages[k].name, .slice fA x.messages[k].fields.length fc, .slice rA x.messages[k].reserved.length rc]) (w4.setCell ⟨bt, 1, none⟩ (.slice A (k + 1) c)) := by
  have hB' : Below wr.heap.size wr W3 := below_on ((Below.refl _ wr).alloc (Nat.le_refl _) o) hB
  have hsz := hB'.size
  have ht3 := (hB'.block _ (blk_lt h.t)).trans h.t
  have hrow3 := own_blk h.row (w' := W3) (fun g hg => hB'.block _ (h.row.lt g hg).2)
  have hTg : TyKept [44, 3, 54, 26] W3 w4 := TyKept.row hrow3 hg (by decide)
  have ht4 := (hTg _ _ _ _ ht3 (by decide)).trans ht3
  have hTs : TyKept [44, 3, 54] w4 (w4.setCell ⟨bt, 1, none⟩ (.slice A (k + 1) c)) := TyKept.set ht4 (by decide) _
  have hsg : ∀ g, vm.ownBlock = some g → w.heap.size + 2 ≤ g := fun g hg => (h.row.lt g hg).1
  have hA4 : SchA w cs w4 := by
    have hA3 := h.a.under hB'
    cases hv : vm.ownBlock with
    | some g => rw [hv] at hg; exact hA3.turn hg (hsg g hv)
    | none => rw [hv] at hg; exact hA3.turn (g := W3.heap.size) ⟨hg.os, hg.tape, hg.output, hg.size, fun i hi _ => hg.block i hi (by simp)⟩ hA3.size
  have hx : x.messages.take (k + 1) = x.messages.take k ++ [x.messages[k]] := List.take_succ_eq_append_getElem hk
  have hszs : (w4.setCell ⟨bt, 1, none⟩ (.slice A (k + 1) c)).heap.size = w4.heap.size := by simp [World.setCell]
  refine ⟨hA4.set hbt _, ?_, ?_, ?_, ?_⟩
  · simp [World.setCell, Array.getElem?_modify, ht4]
  · exact own_ty (own_ty (own_blk h.meth (w' := W3) (fun g hg => hB'.block _ (h.meth.lt g hg).2)) hTg (by decide)) hTs (by decide)
  · refine own_blk hrow (fun g hg => Below.heap_setCell _ _ _ _ (fun e => ?_))
    rw [e] at hg
    rcases hrow.2 with ⟨h1, h2⟩ | ⟨g', cap', cur, h1, _, h3, _⟩
    · exact absurd h2 (by omega)
    · rw [h1] at hg
      simp only [Value.ownBlock, Option.some.injEq] at hg
      rw [hg, ht4] at h3
      injection h3 with h3
      injection h3 with _ h3 _
      exact absurd h3 (by decide)
  · rw [hx, hszs]
    have hm3 : MsgRow W3 wr.heap.size (w.heap.size + 2) (x.messages.take k) mcs := MsgRow.range (fun b _ hb => hB'.block b hb) h.msgs
    have hm4 := (hm3.kept (hTg.mono (by decide))).kept (hTs.mono (by decide))
    have hf4 := own_ty (own_ty hf hTg (by decide)) hTs (by decide)
    have hr4 := own_ty (own_ty hr hTg (by decide)) hTs (by decide)
    exact MsgRow.snoc hf4 hr4 (fun j hj => by have := (hf4.lt j hj).2; rw [hszs] at this; exact this) (fun j hj => by have := (hr4.lt j hj).2; rw [hszs] at this; exact this) (Nat.le_trans hsz hg.size) hm4

/-- All messages and the first k enumerations have been copied. -/
structure CopyE (w : World) (cs : Array Value) (x : SchemaD) (bt : Nat) (vc vm ve : Value) (k : Nat) (mcs ecs : List Value) (W : World) : Prop where
  a : SchA w cs W
  t : W.heap[bt]? = some (.cells #[.string x.name, vm, ve, vc] 26 (0, 0))
  meth : W.ownsRow (w.heap.size + 2) 54 3 vc x.methods.length (methodsCells x.methods)
  row : W.ownsRow (w.heap.size + 2) 40 3 vm x.messages.length mcs
  msgs : MsgRow W W.heap.size (w.heap.size + 2) x.messages mcs
  erow : W.ownsRow (w.heap.size + 2) 47 2 ve k ecs
  ens : EnumRow W W.heap.size (w.heap.size + 2) (x.enums.take k) ecs
def CopyF (w : World) (cs : Array Value) (x : SchemaD) (bt : Nat) (vc : Value) (k : Nat) (W : World) : Prop := ∃ vm ve mcs ecs, CopyE w cs x bt vc vm ve k mcs ecs W

def S10 (bt bs g o : Nat) (v e a0 a1 : Value) (W : World) : Prop := W.cell? ⟨bt, 2, none⟩ = some v ∧ W.cell? ⟨bs, 2, none⟩ = some e ∧ W.cell? ⟨g, o, none⟩ = some a0 ∧ W.cell? ⟨g, o + 1, none⟩ = some a1
theorem two_one {a : ByteArray} {A : Option Addr} {n c : Nat} : ∀ u ∈ (#[Value.string a, .slice A n c] : Array Value).toList, u.oneCell' = true := by
  intro u hu
  simp only [List.mem_cons, List.mem_nil_iff, or_false] at hu
  rcases hu with rfl | rfl <;> rfl
theorem SchA.row {w : World} {cs : Array Value} {wr w2 : World} {o : Option Nat} (h : SchA w cs wr) (h2 : wr.grownBy w2 o) (hg : ∀ g, o = some g → w.heap.size + 2 ≤ g) : SchA w cs w2 := by
  cases o with
  | some g => exact h.turn h2 (hg g rfl)
  | none => exact h.turn (g := wr.heap.size) ⟨h2.os, h2.tape, h2.output, h2.size, fun i hi _ => h2.block i hi (by simp)⟩ h.size
/-- An enumeration more. -/
theorem CopyE.step {w : World} {cs : Array Value} {x : SchemaD} {bt : Nat} {vc vm ve : Value} {k : Nat} {mcs ecs : List Value} {wr W3 w4 : World} {fA A : Option Addr} {fc c : Nat} (hbt : w.heap.size + 2 ≤ bt) (hk : k < x.enums.length) (h : CopyE w cs x bt vc vm ve k mcs ecs wr)
    (hB : Below wr.heap.size wr W3)
    (hf : W3.ownsRow wr.heap.size 49 2 (.slice fA x.enums[k].values.length fc) x.enums[k].values.length (namedsCells x.enums[k].values))
    (hrow : w4.ownsRow (w.heap.size + 2) 47 2 (.slice A (k + 1) c) (k + 1) (ecs ++ [.string x.enums[k].name, .slice fA x.enums[k].values.length fc]))
    (hg : W3.grownBy w4 ve.ownBlock) :
    CopyE w cs x bt vc vm (.slice A (k + 1) c) (k + 1) mcs (ecs ++ [.string x.enums[k].name, .slice fA x.enums[k].values.length fc]) (w4.setCell ⟨bt, 2, none⟩ (.slice A (k + 1) c)) := by
  have hsz := hB.size
  have ht3 := (hB.block _ (blk_lt h.t)).trans h.t
  have hrow3 := own_blk h.erow (w' := W3) (fun g hg => hB.block _ (h.erow.lt g hg).2)
  have hTg : TyKept [49, 44, 3, 54, 40, 26] W3 w4 := TyKept.row hrow3 hg (by decide)
  have ht4 := (hTg _ _ _ _ ht3 (by decide)).trans ht3
  have hTs : TyKept [49, 44, 3, 54, 40] w4 (w4.setCell ⟨bt, 2, none⟩ (.slice A (k + 1) c)) := TyKept.set ht4 (by decide) _
  have hA4 : SchA w cs w4 := SchA.row (h.a.under hB) hg (fun g hg => (h.erow.lt g hg).1)
  have hx : x.enums.take (k + 1) = x.enums.take k ++ [x.enums[k]] := List.take_succ_eq_append_getElem hk
  have hszs : (w4.setCell ⟨bt, 2, none⟩ (.slice A (k + 1) c)).heap.size = w4.heap.size := by simp [World.setCell]
  have hm3 : MsgRow W3 wr.heap.size (w.heap.size + 2) x.messages mcs := MsgRow.range (fun b _ hb => hB.block b hb) h.msgs
  have he3 : EnumRow W3 wr.heap.size (w.heap.size + 2) (x.enums.take k) ecs := EnumRow.range (fun b _ hb => hB.block b hb) h.ens
  refine ⟨hA4.set hbt _, ?_, ?_, ?_, ?_, ?_, ?_⟩
  · simp [World.setCell, Array.getElem?_modify, ht4]
  · exact own_ty (own_ty (own_blk h.meth (w' := W3) (fun g hg => hB.block _ (h.meth.lt g hg).2)) hTg (by decide)) hTs (by decide)
  · exact own_ty (own_ty (own_blk h.row (w' := W3) (fun g hg => hB.block _ (h.row.lt g hg).2)) hTg (by decide)) hTs (by decide)
  · rw [hszs]
    exact (((hm3.kept (hTg.mono (by decide))).kept (hTs.mono (by decide))).wider (Nat.le_trans hsz hg.size) (Nat.le_refl _))
  · refine own_blk hrow (fun g hg => Below.heap_setCell _ _ _ _ (fun e => ?_))
    rw [e] at hg
    rcases hrow.2 with ⟨h1, h2⟩ | ⟨g', cap', cur, h1, _, h3, _⟩
    · exact absurd h2 (by omega)
    · rw [h1] at hg
      simp only [Value.ownBlock, Option.some.injEq] at hg
      rw [hg, ht4] at h3
      injection h3 with h3
      injection h3 with _ h3 _
      exact absurd h3 (by decide)
  · rw [hx, hszs]
    have he4 := (he3.kept (hTg.mono (by decide))).kept (hTs.mono (by decide))
    have hf4 := own_ty (own_ty hf hTg (by decide)) hTs (by decide)
    exact EnumRow.snoc hf4 (fun j hj => by have := (hf4.lt j hj).2; rw [hszs] at this; exact this) (Nat.le_trans hsz hg.size) he4

theorem own_ne_blk {w : World} {B e s n b : Nat} {v : Value} {xs : List Value} {cs : Array Value} {T : TypeId} {fr : Nat × Nat} (h : w.ownsRow B e s v n xs) (hb : w.heap[b]? = some (.cells cs T fr)) (hT : T ≠ e) : some b ≠ v.ownBlock := by
  intro hk
  rcases h.2 with ⟨rfl, _⟩ | ⟨g, cap, cur, rfl, _, hh, _⟩
  · simp [Value.ownBlock] at hk
  · simp only [Value.ownBlock, Option.some.injEq] at hk
    rw [hk, hh] at hb
    injection hb with hb
    injection hb with _ hb _
    exact hT hb.symm
theorem three_one {a : ByteArray} {A A' : Option Addr} {n c n' c' : Nat} : ∀ u ∈ (#[Value.string a, .slice A n c, .slice A' n' c'] : Array Value).toList, u.oneCell' = true := by
  intro u hu
  simp only [List.mem_cons, List.mem_nil_iff, or_false] at hu
  rcases hu with rfl | rfl | rfl <;> rfl
/-- What the region's loads read. -/
def S6 (bt bm : Nat) (v a0 a1 a2 : Value) (W : World) : Prop := W.cell? ⟨bt, 1, none⟩ = some v ∧ W.cell? ⟨bm, 0, none⟩ = some a0 ∧ W.cell? ⟨bm, 1, none⟩ = some a1 ∧ W.cell? ⟨bm, 2, none⟩ = some a2
theorem S6_of {bt bm : Nat} {v a0 a1 a2 : Value} {W : World} (h : W.cell? ⟨bt, 1, none⟩ = some v) (h2 : Cells3 bm a0 a1 a2 W) : S6 bt bm v a0 a1 a2 W := ⟨h, h2⟩
def CopyN (w : World) (cs : Array Value) (x : SchemaD) (bt : Nat) (vc : Value) (k : Nat) (W : World) : Prop := ∃ vm mcs, CopyM w cs x bt vc vm k mcs W

def SchCopied (x : SchemaD) (w : World) (e : Ending) (w' : World) : Prop :=
  ∃ vm ve vc, e = .returned (.agg #[.string x.name, vm, ve, vc]) ∧ OwnSchema w' w.heap.size w'.heap.size x vm ve vc ∧ Below w.heap.size w w'

set_option maxHeartbeats 16000000 in
set_option maxRecDepth 100000 in
theorem schema_copied (x : SchemaD) (vm ve vc : Value) (w : World) (h : SchemaRd w (fun k => k < w.heap.size) x vm ve vc) (hx : x.Mild) :
    Calls Tryz.prog 11 #[.agg #[.string x.name, vm, ve, vc]] w (SchCopied x w) := by
  obtain ⟨mcs, ecs, h1, h2, h3, h4, h5⟩ := h
  obtain ⟨mA, mc, rfl⟩ := h1.slice
  obtain ⟨eA, ec, rfl⟩ := h2.slice
  obtain ⟨cA, cc, rfl⟩ := h3.slice
  have hl1 := hx.messages
  have hl2 := hx.enums
  have hl3 := hx.methods
  have hA0 : SchA w #[.string x.name, .slice mA x.messages.length mc, .slice eA x.enums.length ec, .slice cA x.methods.length cc]
      ((w.alloc (.cells #[.string x.name, .slice mA x.messages.length mc, .slice eA x.enums.length ec, .slice cA x.methods.length cc] 26)).alloc (.cells #[.string noText, .slice none 0 0, .slice none 0 0, .slice none 0 0] 26)).drew := by
    have hn := heap_alloc_new (w.alloc (.cells #[.string x.name, .slice mA x.messages.length mc, .slice eA x.enums.length ec, .slice cA x.methods.length cc] 26)) (.cells #[.string noText, .slice none 0 0, .slice none 0 0, .slice none 0 0] 26)
    rw [sizeAlloc] at hn
    exact ⟨(((Below.refl _ w).alloc (Nat.le_refl _) _).alloc (by simp) _).drew, blk_alloc (heap_alloc_new w _) _, hn, by show w.heap.size + 2 ≤ ((w.alloc _).alloc _).heap.size; simp⟩
  replace h1 := Lib.hid h1; replace h2 := Lib.hid h2; replace h3 := Lib.hid h3; replace h4 := Lib.hid h4; replace h5 := Lib.hid h5; replace hx := Lib.hid hx
  go_enter Tryz.func11, Tryz.ntmps11
  go_upto_region 1 with fail
  go_cut [3] (fun t wx => TopS w #[.string x.name, .slice mA x.messages.length mc, .slice eA x.enums.length ec, .slice cA x.methods.length cc] x t (.slice none 0 0) (.slice none 0 0) wx)
  case first =>
    have hC0 := hA0.cells
    have hmeth : ∀ W, SchA w #[.string x.name, .slice mA x.messages.length mc, .slice eA x.enums.length ec, .slice cA x.methods.length cc] W → Rd W (fun k => k < W.heap.size) 3 (.slice cA x.methods.length cc) x.methods.length (methodsCells x.methods) :=
      fun W hW => h3.out.kept hW.below.block (fun j hj => Nat.lt_of_lt_of_le hj hW.below.size)
    replace hmeth := Lib.hid hmeth
    go_region_held_law (fun w' => w'.cell? ⟨w.heap.size, 0, none⟩ = some (.string x.name) ∧ w'.cell? ⟨w.heap.size, 1, none⟩ = some (.slice mA x.messages.length mc) ∧ w'.cell? ⟨w.heap.size, 2, none⟩ = some (.slice eA x.enums.length ec) ∧ w'.cell? ⟨w.heap.size, 3, none⟩ = some (.slice cA x.methods.length cc))
      (first | assumption | exact SchA.cells (SchA.alloc (by assumption) _) | exact SchA.cells (SchA.set (SchA.set (SchA.set (SchA.set (by assumption) (by omega) _) (by omega) _) (by omega) _) (by omega) _))
      (first
        | (refine step_clone (by rfl) _ _ _ (by rfl) 54 _ 3 48 Tryz.underlying24 infoMethod rfl (by decide) (by rfl) cA x.methods.length cc _ (by rfl) (hmeth.out _ (by first | assumption | exact SchA.alloc (by assumption) _)) (methods_one _) (by omega) (by omega) ?_; intro dA dc w2 hom hb2; have hA2 := SchA.under (by first | assumption | exact SchA.alloc (by assumption) _) hb2; have hC2 := hA2.cells; obtain ⟨hcc, hff⟩ := bcell hb2; have hsz2 := hb2.size))
    · have hfin := Lib.hid (TopS.behind hA2 hom (by simp))
      clear hcc hff
      go_wp2_with fail
      go_meet
      exact hfin.out
    · have hbk := heap_alloc_new ((w.alloc (.cells #[.string x.name, .slice mA x.messages.length mc, .slice eA x.enums.length ec, .slice cA x.methods.length cc] 26)).alloc (.cells #[.string noText, .slice none 0 0, .slice none 0 0, .slice none 0 0] 26)).drew (.cells #[.string noText, .slice none 0 0, .slice none 0 0, .slice none 0 0] 26)
      rw [show (((w.alloc (.cells #[.string x.name, .slice mA x.messages.length mc, .slice eA x.enums.length ec, .slice cA x.methods.length cc] 26)).alloc (.cells #[.string noText, .slice none 0 0, .slice none 0 0, .slice none 0 0] 26)).drew).heap.size = w.heap.size + 1 + 1 by simp] at hbk
      have hfin := Lib.hid (TopS.ahead hA2 hom hb2 (b := w.heap.size + 1 + 1) hbk (by omega))
      clear hcc hff hbk
      go_wp2_with fail
      go_meet
      exact hfin.out
  case rest =>
    obtain ⟨bt, vct, rfl, hbt, hA, ht, hom⟩ := hcut
    obtain ⟨wd, rfl⟩ : ∃ wo : World, wo = wc := ⟨_, rfl⟩
    have hcp : CopyM w #[.string x.name, .slice mA x.messages.length mc, .slice eA x.enums.length ec, .slice cA x.methods.length cc] x bt vct (.slice none 0 0) 0 [] wd := ⟨hA, ht, hom, ⟨rfl, .inl ⟨rfl, rfl⟩⟩, ⟨rfl, hA.size⟩⟩
    replace hA := Lib.hid hA; replace ht := Lib.hid ht; replace hom := Lib.hid hom; replace hcp := Lib.hid hcp
    go_wp2
    go_loopw [4] (fun i wr => ∃ (k : Nat), k ≤ x.messages.length ∧ i = .int .i64 k ∧ CopyN w #[.string x.name, .slice mA x.messages.length mc, .slice eA x.enums.length ec, .slice cA x.methods.length cc] x bt vct k wr) (fun i _ => x.messages.length - (intOf i).toNat)
    case atStart => exact ⟨0, Nat.zero_le _, rfl, _, _, hcp.out⟩
    case round =>
      obtain ⟨k, hk, rfl, vmk, mk, hcr⟩ := hrel
      have hs1 := blk_cell hcr.a.s 1
      simp only [List.getElem?_toArray, List.getElem?_cons_succ, List.getElem?_cons_zero] at hs1
      by_cases hlt : k < x.messages.length
      · have hlt' : (k : Int) < (x.messages.length : Int) := by omega
        obtain ⟨g, o, c, hv, _, hc⟩ := h1.out.form (by omega)
        injection hv with hv1 hv2 hv3
        subst hv1; subst hv3
        obtain ⟨vf, vr, q0, q1, q2, gf, gr⟩ := h4.out.get k hlt
        obtain ⟨fA, fc, rfl⟩ := gf.slice
        obtain ⟨rA, rc, rfl⟩ := gr.slice
        have hd0 := h1.out.at_ (w' := wr) (by omega) hcr.a.below.block k 0 (by omega) q0
        have hd1 := h1.out.at_ (w' := wr) (by omega) hcr.a.below.block k 1 (by omega) q1
        have hd2 := h1.out.at_ (w' := wr) (by omega) hcr.a.below.block k 2 (by omega) q2
        simp only [Nat.add_zero] at hd0
        have hmm := hx.out.fields x.messages[k] (List.getElem_mem hlt)
        obtain ⟨wk, rfl⟩ : ∃ wo : World, wo = wr := ⟨_, rfl⟩
        have hbm := heap_alloc_new wk (.cells #[.string x.messages[k].name, .slice fA x.messages[k].fields.length fc, .slice rA x.messages[k].reserved.length rc] 40)
        have hbtk := blk_lt hcr.t
        replace hcr := Lib.hid hcr; replace hbm := Lib.hid hbm
        clear hc q0 q1 q2
        have hvb : ∀ g, vmk.ownBlock = some g → g < wk.heap.size := fun g hg => (hcr.out.row.lt g hg).2
        generalize hMd : x.messages[k] = m at *
        replace hMd := Lib.hid hMd
        obtain ⟨W0, hW0⟩ : ∃ W0, W0 = wk.alloc (.cells #[.string m.name, .slice fA m.fields.length fc, .slice rA m.reserved.length rc] 40) := ⟨_, rfl⟩
        have hsz0 : W0.heap.size = wk.heap.size + 1 := by rw [hW0, sizeAlloc]
        have hB0 : Below W0.heap.size W0 W0.drew := (Below.refl _ W0).drew
        have hbb : Below wk.heap.size wk W0 := by rw [hW0]; exact (Below.refl _ wk).alloc (Nat.le_refl _) _
        have hcb : ∀ W, Below W0.heap.size W0 W → W.cell? ⟨bt, 1, none⟩ = some vmk ∧ W.frozen? ⟨bt, 1, none⟩ = false := fun W hW => by
          have h9 := (hW.block bt (by omega)).trans ((hbb.block bt hbtk).trans hcr.out.t)
          exact ⟨blk_cell h9 1, blk_frozen h9 1⟩
        have hcm : ∀ W, Below W0.heap.size W0 W → Cells3 wk.heap.size (.string m.name) (.slice fA m.fields.length fc) (.slice rA m.reserved.length rc) W := fun W hW =>
          cells3_of ((hW.block _ (by omega)).trans (by rw [hW0]; exact hbm.out))
        have hrf : ∀ W, Below W0.heap.size W0 W → Rd W (fun k => k < W.heap.size) 5 (.slice fA m.fields.length fc) m.fields.length (fieldsCells m.fields) := fun W hW =>
          gf.kept (hcr.out.a.below.trans ((hbb.trans (hW.mono (by omega))).mono hcr.out.a.below.size)).block (fun j hj => Nat.lt_of_lt_of_le hj (Nat.le_trans hcr.out.a.below.size (Nat.le_trans hbb.size hW.size)))
        have hri : ∀ W, Below W0.heap.size W0 W → Rd W (fun k => k < W.heap.size) 1 (.slice rA m.reserved.length rc) m.reserved.length (intsCells m.reserved) := fun W hW =>
          gr.kept (hcr.out.a.below.trans ((hbb.trans (hW.mono (by omega))).mono hcr.out.a.below.size)).block (fun j hj => Nat.lt_of_lt_of_le hj (Nat.le_trans hcr.out.a.below.size (Nat.le_trans hbb.size hW.size)))
        have hrw : ∀ W, Below W0.heap.size W0 W → W.ownsRow (w.heap.size + 2) 40 3 vmk k mk := fun W hW =>
          own_blk hcr.out.row (fun g hg => (hW.block g (by have := hvb g hg; omega)).trans (hbb.block g (hvb g hg)))
        replace hcb := Lib.hid hcb; replace hcm := Lib.hid hcm; replace hrf := Lib.hid hrf; replace hri := Lib.hid hri; replace hrw := Lib.hid hrw; replace hbb := Lib.hid hbb; replace hsz0 := Lib.hid hsz0; replace hW0 := Lib.hid hW0; replace hvb := Lib.hid hvb; replace gf := Lib.hid gf; replace gr := Lib.hid gr
        go_upto_region 6 with fail
        rw [← hW0.out]
        clear hd0 hd1 hd2 hs1
        refine wp_region_wait (S6 bt wk.heap.size vmk (.string m.name) (.slice fA m.fields.length fc) (.slice rA m.reserved.length rc)) 14 (by kernel_rfl) ?_
        have hS0 := S6_of (hcb.out _ hB0).1 (hcm.out _ hB0)
        refine wpAnyG_take (L := 14) (i := 0) (v := .pointer (some ⟨bt, 1, none⟩)) rfl (by kernel_rfl) (by kernel_rfl) (by kernel_rfl) (by kernel_rfl) (fun _ _ _ h => h) (by rfl) hS0 (fun wS hS => ?_) ?_
        · obtain ⟨hq0, hq1, hq2, hq3⟩ := hS
          first | (go_simp; done) | (go_simp; with_reducible rfl)
        try simp only [List.getElem_toArray, List.getElem_cons_succ, List.getElem_cons_zero, Act.put, List.setIfInBounds_toArray, List.set_cons_zero, List.set_cons_succ]
        refine wpAnyG_take (L := 14) (i := 1) (v := vmk) rfl (by kernel_rfl) (by kernel_rfl) (by kernel_rfl) (by kernel_rfl) (fun _ _ _ h => h) (by rfl) hS0 (fun wS hS => ?_) ?_
        · obtain ⟨hq0, hq1, hq2, hq3⟩ := hS
          first | (go_simp; done) | (go_simp; with_reducible rfl)
        try simp only [List.getElem_toArray, List.getElem_cons_succ, List.getElem_cons_zero, Act.put, List.setIfInBounds_toArray, List.set_cons_zero, List.set_cons_succ]
        refine wpAnyG_take (L := 14) (i := 2) (v := .pointer (some ⟨wk.heap.size, 0, none⟩)) rfl (by kernel_rfl) (by kernel_rfl) (by kernel_rfl) (by kernel_rfl) (fun _ _ _ h => h) (by rfl) hS0 (fun wS hS => ?_) ?_
        · obtain ⟨hq0, hq1, hq2, hq3⟩ := hS
          first | (go_simp; done) | (go_simp; with_reducible rfl)
        try simp only [List.getElem_toArray, List.getElem_cons_succ, List.getElem_cons_zero, Act.put, List.setIfInBounds_toArray, List.set_cons_zero, List.set_cons_succ]
        refine wpAnyG_take (L := 14) (i := 3) (v := .string m.name) rfl (by kernel_rfl) (by kernel_rfl) (by kernel_rfl) (by kernel_rfl) (fun _ _ _ h => h) (by rfl) hS0 (fun wS hS => ?_) ?_
        · obtain ⟨hq0, hq1, hq2, hq3⟩ := hS
          first | (go_simp; done) | (go_simp; with_reducible rfl)
        try simp only [List.getElem_toArray, List.getElem_cons_succ, List.getElem_cons_zero, Act.put, List.setIfInBounds_toArray, List.set_cons_zero, List.set_cons_succ]
        refine wpAnyG_take (L := 14) (i := 4) (v := .pointer (some ⟨wk.heap.size, 1, none⟩)) rfl (by kernel_rfl) (by kernel_rfl) (by kernel_rfl) (by kernel_rfl) (fun _ _ _ h => h) (by rfl) hS0 (fun wS hS => ?_) ?_
        · obtain ⟨hq0, hq1, hq2, hq3⟩ := hS
          first | (go_simp; done) | (go_simp; with_reducible rfl)
        try simp only [List.getElem_toArray, List.getElem_cons_succ, List.getElem_cons_zero, Act.put, List.setIfInBounds_toArray, List.set_cons_zero, List.set_cons_succ]
        refine wpAnyG_take (L := 14) (i := 5) (v := .slice fA m.fields.length fc) rfl (by kernel_rfl) (by kernel_rfl) (by kernel_rfl) (by kernel_rfl) (fun _ _ _ h => h) (by rfl) hS0 (fun wS hS => ?_) ?_
        · obtain ⟨hq0, hq1, hq2, hq3⟩ := hS
          first | (go_simp; done) | (go_simp; with_reducible rfl)
        try simp only [List.getElem_toArray, List.getElem_cons_succ, List.getElem_cons_zero, Act.put, List.setIfInBounds_toArray, List.set_cons_zero, List.set_cons_succ]
        refine wpAnyG_take (L := 14) (i := 7) (v := .pointer (some ⟨wk.heap.size, 2, none⟩)) rfl (by kernel_rfl) (by kernel_rfl) (by kernel_rfl) (by kernel_rfl) (fun _ _ _ h => h) (by rfl) hS0 (fun wS hS => ?_) ?_
        · obtain ⟨hq0, hq1, hq2, hq3⟩ := hS
          first | (go_simp; done) | (go_simp; with_reducible rfl)
        try simp only [List.getElem_toArray, List.getElem_cons_succ, List.getElem_cons_zero, Act.put, List.setIfInBounds_toArray, List.set_cons_zero, List.set_cons_succ]
        refine wpAnyG_take (L := 14) (i := 8) (v := .slice rA m.reserved.length rc) rfl (by kernel_rfl) (by kernel_rfl) (by kernel_rfl) (by kernel_rfl) (fun _ _ _ h => h) (by rfl) hS0 (fun wS hS => ?_) ?_
        · obtain ⟨hq0, hq1, hq2, hq3⟩ := hS
          first | (go_simp; done) | (go_simp; with_reducible rfl)
        try simp only [List.getElem_toArray, List.getElem_cons_succ, List.getElem_cons_zero, Act.put, List.setIfInBounds_toArray, List.set_cons_zero, List.set_cons_succ]
        refine wpAnyG_one (i := 6) rfl (by kernel_rfl) (fun K hK => ?_)
        simp (proj := false) only [List.getElem_toArray, List.getElem_cons_succ, List.getElem_cons_zero]
        refine step_clone (by rfl) _ _ _ (by rfl) 44 _ 5 56 Tryz.underlying37 infoField rfl (by decide) (by rfl) fA m.fields.length fc _ (by rfl) (hrf.out _ hB0) (fields_one _) (by omega) (by omega) ?_
        intro fA2 fc2 w2 hof hb2
        have hB2 := below_on hB0 hb2
        have hS2 := S6_of (hcb.out _ hB2).1 (hcm.out _ hB2)
        refine hK.out _ _ (fun _ => hS2) ?_
        clear hK K
        try simp only [List.getElem_toArray, List.getElem_cons_succ, List.getElem_cons_zero, Act.put, List.setIfInBounds_toArray, List.set_cons_zero, List.set_cons_succ]
        refine wpAnyG_one (i := 9) rfl (by kernel_rfl) (fun K hK => ?_)
        simp (proj := false) only [List.getElem_toArray, List.getElem_cons_succ, List.getElem_cons_zero]
        refine step_call (by rfl) 22 _ _ (by rfl) (fun _ _ => by kernel_rfl) (.slice rA m.reserved.length rc) (by rfl) (ints_calls rA m.reserved.length rc (intsCells m.reserved) _ (hri.out _ hB2) (ints_one _) (by omega)) ?_
        rintro e w3 ⟨rA2, rc2, rfl, hoi, hb3⟩
        refine ⟨_, rfl, ?_⟩
        have hB3 := below_on hB2 hb3
        have hS3 := S6_of (hcb.out _ hB3).1 (hcm.out _ hB3)
        refine hK.out _ _ (fun _ => hS3) ?_
        clear hK K
        try simp only [List.getElem_toArray, List.getElem_cons_succ, List.getElem_cons_zero, Act.put, List.setIfInBounds_toArray, List.set_cons_zero, List.set_cons_succ]
        refine wpAnyG_take (L := 14) (i := 10) (v := .agg #[.string m.name, .slice fA2 m.fields.length fc2, .slice rA2 m.reserved.length rc2]) rfl (by kernel_rfl) (by kernel_rfl) (by kernel_rfl) (by kernel_rfl) (fun _ _ _ h => h) (by rfl) hS3 (fun wS hS => ?_) ?_
        · obtain ⟨hq0, hq1, hq2, hq3⟩ := hS
          first | (go_simp; done) | (go_simp; with_reducible rfl)
        try simp only [List.getElem_toArray, List.getElem_cons_succ, List.getElem_cons_zero, Act.put, List.setIfInBounds_toArray, List.set_cons_zero, List.set_cons_succ]
        refine wpAnyG_one (i := 11) rfl (by kernel_rfl) (fun K hK => ?_)
        simp (proj := false) only [List.getElem_toArray, List.getElem_cons_succ, List.getElem_cons_zero]
        go_simp
        have hB3a := below_on hB3 ((Below.refl _ w3).alloc (Nat.le_refl _) (.cells #[.string m.name, .slice fA2 m.fields.length fc2, .slice rA2 m.reserved.length rc2] 40))
        have hS3a := S6_of (hcb.out _ hB3a).1 (hcm.out _ hB3a)
        refine hK.out _ _ (fun _ => hS3a) ?_
        clear hK K
        try simp only [List.getElem_toArray, List.getElem_cons_succ, List.getElem_cons_zero, Act.put, List.setIfInBounds_toArray, List.set_cons_zero, List.set_cons_succ]
        refine wpAnyG_one (i := 12) rfl (by kernel_rfl) (fun K hK => ?_)
        simp (proj := false) only [List.getElem_toArray, List.getElem_cons_succ, List.getElem_cons_zero]
        have hszw : w.heap.size + 2 ≤ (w3.alloc (.cells #[.string m.name, .slice fA2 m.fields.length fc2, .slice rA2 m.reserved.length rc2] 40)).heap.size := by have := hB3a.size; have := hsz0.out; have := hcr.out.a.size; omega
        refine step_push (by rfl) _ _ _ (by rfl) (w.heap.size + 2) 40 _ 3 64 Tryz.underlying22 infoMessage rfl (by decide) (by decide) vmk k mk #[.string m.name, .slice fA2 m.fields.length fc2, .slice rA2 m.reserved.length rc2] w3.heap.size (by rfl) (hrw.out _ hB3a) (heap_alloc_new w3 _) (by rfl) rfl three_one (by omega) hszw ?_
        intro A4 c4 w4 hown4 hbl4 hg4
        have hbt3 : (w3.alloc (.cells #[.string m.name, .slice fA2 m.fields.length fc2, .slice rA2 m.reserved.length rc2] 40)).heap[bt]? = some (.cells #[.string x.name, vmk, .slice none 0 0, vct] 26 (0, 0)) :=
          (hB3a.block bt (by have := hsz0.out; omega)).trans ((hbb.out.block bt hbtk).trans hcr.out.t)
        have hbt4 := (hg4.block bt (blk_lt hbt3) (own_ne_blk (hrw.out _ hB3a) hbt3 (by decide))).trans hbt3
        have hk4 := blk_cell hbt4 1
        have hf4 := blk_frozen hbt4 1
        simp only [List.getElem?_toArray, List.getElem?_cons_succ, List.getElem?_cons_zero] at hk4
        have hS4 := S6_of hk4 (Cells3.grown (hcm.out _ hB3a) hg4 (by have := hB3a.size; have := hsz0.out; omega) (fun e => by have := hvb.out _ e.symm; omega))
        refine hK.out _ _ (fun _ => hS4) ?_
        clear hK K
        try simp only [List.getElem_toArray, List.getElem_cons_succ, List.getElem_cons_zero, Act.put, List.setIfInBounds_toArray, List.set_cons_zero, List.set_cons_succ]
        refine wpAnyG_take (L := 14) (i := 13) (v := .pointer (some ⟨bt, 1, none⟩)) rfl (by kernel_rfl) (by kernel_rfl) (by kernel_rfl) (by kernel_rfl) (fun _ _ _ h => h) (by rfl) hS4 (fun wS hS => ?_) ?_
        · obtain ⟨hq0, hq1, hq2, hq3⟩ := hS
          first | (go_simp; done) | (go_simp; with_reducible rfl)
        try simp only [List.getElem_toArray, List.getElem_cons_succ, List.getElem_cons_zero, Act.put, List.setIfInBounds_toArray, List.set_cons_zero, List.set_cons_succ]
        refine wpAnyG_one (i := 14) rfl (by kernel_rfl) (fun K hK => ?_)
        simp (proj := false) only [List.getElem_toArray, List.getElem_cons_succ, List.getElem_cons_zero]
        have hfin : Hid (CopyN w #[.string x.name, .slice (some ⟨g, o, none⟩) x.messages.length mc, .slice eA x.enums.length ec, .slice cA x.methods.length cc] x bt vct (k + 1) (w4.setCell ⟨bt, 1, none⟩ (.slice A4 (k + 1) c4))) := Lib.hid (by
          have hd := hMd.out
          have hW := hW0.out
          subst hW
          subst hd
          exact ⟨_, _, CopyM.step hbt hlt hcr.out hB3a (own_mono ((own_blk hof (w' := w3) (fun j hj => hb3.block j (hof.lt j hj).2)).alloc _) (by show wk.heap.size ≤ (wk.alloc _).drew.heap.size; have := hsz0.out; show wk.heap.size ≤ (wk.alloc _).heap.size; omega)) (own_mono (hoi.alloc _) (by have := hB2.size; have := hsz0.out; omega)) hown4 hg4⟩)
        replace hown4 := Lib.hid hown4; replace hbl4 := Lib.hid hbl4; replace hg4 := Lib.hid hg4; replace hS4 := Lib.hid hS4; replace hbt3 := Lib.hid hbt3; replace hbt4 := Lib.hid hbt4; replace hof := Lib.hid hof; replace hoi := Lib.hid hoi; replace hb2 := Lib.hid hb2; replace hb3 := Lib.hid hb3; replace hB3a := Lib.hid hB3a; replace hB3 := Lib.hid hB3; replace hB2 := Lib.hid hB2; replace hB0 := Lib.hid hB0; replace hS0 := Lib.hid hS0; replace hS2 := Lib.hid hS2; replace hS3 := Lib.hid hS3; replace hS3a := Lib.hid hS3a
        go_simp
        refine hK.out _ _ (fun h => absurd rfl h) ?_
        clear hK K
        try simp only [List.getElem_toArray, List.getElem_cons_succ, List.getElem_cons_zero, Act.put, List.setIfInBounds_toArray, List.set_cons_zero, List.set_cons_succ]
        refine wpAnyG_done (by kernel_rfl) ?_
        go_wp2
        go_roundw
        case rel => exact ⟨k + 1, by omega, by go_num, hfin.out⟩
        case measure => simp [intOf]; omega
      · have hke : k = x.messages.length := by omega
        subst hke
        have hce : CopyF w #[.string x.name, .slice mA x.messages.length mc, .slice eA x.enums.length ec, .slice cA x.methods.length cc] x bt vct 0 wr := ⟨vmk, .slice none 0 0, mk, [], hcr.a, hcr.t, hcr.meth, hcr.row, by have := hcr.msgs; rw [List.take_length] at this; exact this, ⟨rfl, .inl ⟨rfl, rfl⟩⟩, ⟨rfl, hcr.a.size⟩⟩
        have hnlt : ¬ ((x.messages.length : Int) < (x.messages.length : Int)) := by omega
        obtain ⟨wk, rfl⟩ : ∃ wo : World, wo = wr := ⟨_, rfl⟩
        have hs2 := blk_cell hcr.a.s 2
        simp only [List.getElem?_toArray, List.getElem?_cons_succ, List.getElem?_cons_zero] at hs2
        replace hcr := Lib.hid hcr; replace hce := Lib.hid hce
        go_wp2
        go_loopw [6] (fun i wr => ∃ (k : Nat), k ≤ x.enums.length ∧ i = .int .i64 k ∧ CopyF w #[.string x.name, .slice mA x.messages.length mc, .slice eA x.enums.length ec, .slice cA x.methods.length cc] x bt vct k wr) (fun i _ => x.enums.length - (intOf i).toNat)
        case atStart => exact ⟨0, Nat.zero_le _, rfl, hce.out⟩
        case round =>
          obtain ⟨k, hk, rfl, vmk, vek, mk, ek, hcr⟩ := hrel
          have hs2 := blk_cell hcr.a.s 2
          simp only [List.getElem?_toArray, List.getElem?_cons_succ, List.getElem?_cons_zero] at hs2
          by_cases hlt : k < x.enums.length
          · have hlt' : (k : Int) < (x.enums.length : Int) := by omega
            obtain ⟨g, o, c, hv, hgb, hc⟩ := h2.out.form (by omega)
            injection hv with hv1 hv2 hv3
            subst hv1; subst hv3
            obtain ⟨vf, q0, q1, gf⟩ := h5.out.get k hlt
            obtain ⟨fA, fc, rfl⟩ := gf.slice
            have hmm := hx.out.values x.enums[k] (List.getElem_mem hlt)
            have hat : ∀ W, Below w.heap.size w W → W.cell? ⟨g, o + k * 2, none⟩ = some (.string x.enums[k].name) ∧ W.cell? ⟨g, o + k * 2 + 1, none⟩ = some (.slice fA x.enums[k].values.length fc) := fun W hW =>
              ⟨by simpa using h2.out.at_ (w' := W) (by omega) hW.block k 0 (by omega) q0, h2.out.at_ (w' := W) (by omega) hW.block k 1 (by omega) q1⟩
            have hstep := fun (W3 w4 : World) (fA A : Option Addr) (fc c : Nat) => @CopyE.step w #[.string x.name, .slice mA x.messages.length mc, .slice (some ⟨g, o, none⟩) x.enums.length ec, .slice cA x.methods.length cc] x bt vct vmk vek k mk ek wr W3 w4 fA A fc c hbt hlt hcr
            obtain ⟨wk, rfl⟩ : ∃ wo : World, wo = wr := ⟨_, rfl⟩
            have hbtk := blk_lt hcr.t
            have hvb : ∀ j, vek.ownBlock = some j → j < wk.heap.size := fun j hj => (hcr.erow.lt j hj).2
            have hB0 : Below wk.heap.size wk wk.drew := (Below.refl _ wk).drew
            have hcb : ∀ W, Below wk.heap.size wk W → S10 bt w.heap.size g (o + k * 2) vek (.slice (some ⟨g, o, none⟩) x.enums.length ec) (.string x.enums[k].name) (.slice fA x.enums[k].values.length fc) W := fun W hW => by
              have h9 := (hW.block bt hbtk).trans hcr.t
              have h10 := (hW.block w.heap.size (by have := hcr.a.size; omega)).trans hcr.a.s
              have h11 := hat W (hcr.a.below.trans (hW.mono hcr.a.below.size))
              exact ⟨blk_cell h9 2, blk_cell h10 2, h11.1, h11.2⟩
            have hrf : ∀ W, Below wk.heap.size wk W → Rd W (fun k => k < W.heap.size) 2 (.slice fA x.enums[k].values.length fc) x.enums[k].values.length (namedsCells x.enums[k].values) := fun W hW =>
              gf.kept (hcr.a.below.trans (hW.mono hcr.a.below.size)).block (fun j hj => Nat.lt_of_lt_of_le hj (Nat.le_trans hcr.a.below.size hW.size))
            have hrw : ∀ W, Below wk.heap.size wk W → W.ownsRow (w.heap.size + 2) 47 2 vek k ek := fun W hW => own_blk hcr.erow (fun g hg => hW.block g (hvb g hg))
            have hbt0 : ∀ W, Below wk.heap.size wk W → W.heap[bt]? = some (.cells #[.string x.name, vmk, vek, vct] 26 (0, 0)) := fun W hW => (hW.block bt hbtk).trans hcr.t
            have hszk := hcr.a.size
            generalize x.enums[k] = m at *
            replace hcr := Lib.hid hcr; replace hat := Lib.hid hat; replace gf := Lib.hid gf; replace hcb := Lib.hid hcb; replace hrf := Lib.hid hrf; replace hrw := Lib.hid hrw; replace hbt0 := Lib.hid hbt0; replace hvb := Lib.hid hvb; replace hstep := Lib.hid hstep
            clear hc q0 q1 hgb
            go_upto_region 10 with fail
            refine wp_region_wait (S10 bt w.heap.size g (o + k * 2) vek (.slice (some ⟨g, o, none⟩) x.enums.length ec) (.string m.name) (.slice fA m.values.length fc)) 19 (by kernel_rfl) ?_
            have hS0 := hcb.out _ hB0
            refine wpAnyG_take (L := 19) (i := 0) (v := .pointer (some ⟨bt, 2, none⟩)) rfl (by kernel_rfl) (by kernel_rfl) (by kernel_rfl) (by kernel_rfl) (fun _ _ _ h => h) (by rfl) hS0 (fun wS hS => ?_) ?_
            · obtain ⟨hq0, hq1, hq2, hq3⟩ := hS
              first | (go_simp; done) | (go_simp; with_reducible rfl)
            try simp only [List.getElem_toArray, List.getElem_cons_succ, List.getElem_cons_zero, Act.put, List.setIfInBounds_toArray, List.set_cons_zero, List.set_cons_succ]
            refine wpAnyG_take (L := 19) (i := 1) (v := vek) rfl (by kernel_rfl) (by kernel_rfl) (by kernel_rfl) (by kernel_rfl) (fun _ _ _ h => h) (by rfl) hS0 (fun wS hS => ?_) ?_
            · obtain ⟨hq0, hq1, hq2, hq3⟩ := hS
              first | (go_simp; done) | (go_simp; with_reducible rfl)
            try simp only [List.getElem_toArray, List.getElem_cons_succ, List.getElem_cons_zero, Act.put, List.setIfInBounds_toArray, List.set_cons_zero, List.set_cons_succ]
            refine wpAnyG_take (L := 19) (i := 2) (v := .pointer (some ⟨w.heap.size, 2, none⟩)) rfl (by kernel_rfl) (by kernel_rfl) (by kernel_rfl) (by kernel_rfl) (fun _ _ _ h => h) (by rfl) hS0 (fun wS hS => ?_) ?_
            · obtain ⟨hq0, hq1, hq2, hq3⟩ := hS
              first | (go_simp; done) | (go_simp; with_reducible rfl)
            try simp only [List.getElem_toArray, List.getElem_cons_succ, List.getElem_cons_zero, Act.put, List.setIfInBounds_toArray, List.set_cons_zero, List.set_cons_succ]
            refine wpAnyG_take (L := 19) (i := 3) (v := .slice (some ⟨g, o, none⟩) x.enums.length ec) rfl (by kernel_rfl) (by kernel_rfl) (by kernel_rfl) (by kernel_rfl) (fun _ _ _ h => h) (by rfl) hS0 (fun wS hS => ?_) ?_
            · obtain ⟨hq0, hq1, hq2, hq3⟩ := hS
              first | (go_simp; done) | (go_simp; with_reducible rfl)
            try simp only [List.getElem_toArray, List.getElem_cons_succ, List.getElem_cons_zero, Act.put, List.setIfInBounds_toArray, List.set_cons_zero, List.set_cons_succ]
            refine wpAnyG_take (L := 19) (i := 4) (v := .int .i64 k) rfl (by kernel_rfl) (by kernel_rfl) (by kernel_rfl) (by kernel_rfl) (fun _ _ _ h => h) (by rfl) hS0 (fun wS hS => ?_) ?_
            · obtain ⟨hq0, hq1, hq2, hq3⟩ := hS
              first | (go_simp; done) | (go_simp; with_reducible rfl)
            try simp only [List.getElem_toArray, List.getElem_cons_succ, List.getElem_cons_zero, Act.put, List.setIfInBounds_toArray, List.set_cons_zero, List.set_cons_succ]
            refine wpAnyG_take (L := 19) (i := 5) (v := .pointer (some ⟨g, o + k * 2, none⟩)) rfl (by kernel_rfl) (by kernel_rfl) (by kernel_rfl) (by kernel_rfl) (fun _ _ _ h => h) (by rfl) hS0 (fun wS hS => ?_) ?_
            · obtain ⟨hq0, hq1, hq2, hq3⟩ := hS
              first | (go_simp; done) | (go_simp; with_reducible rfl)
            try simp only [List.getElem_toArray, List.getElem_cons_succ, List.getElem_cons_zero, Act.put, List.setIfInBounds_toArray, List.set_cons_zero, List.set_cons_succ]
            refine wpAnyG_take (L := 19) (i := 6) (v := .pointer (some ⟨g, o + k * 2, none⟩)) rfl (by kernel_rfl) (by kernel_rfl) (by kernel_rfl) (by kernel_rfl) (fun _ _ _ h => h) (by rfl) hS0 (fun wS hS => ?_) ?_
            · obtain ⟨hq0, hq1, hq2, hq3⟩ := hS
              first | (go_simp; done) | (go_simp; with_reducible rfl)
            try simp only [List.getElem_toArray, List.getElem_cons_succ, List.getElem_cons_zero, Act.put, List.setIfInBounds_toArray, List.set_cons_zero, List.set_cons_succ]
            refine wpAnyG_take (L := 19) (i := 7) (v := .string m.name) rfl (by kernel_rfl) (by kernel_rfl) (by kernel_rfl) (by kernel_rfl) (fun _ _ _ h => h) (by rfl) hS0 (fun wS hS => ?_) ?_
            · obtain ⟨hq0, hq1, hq2, hq3⟩ := hS
              first | (go_simp; done) | (go_simp; with_reducible rfl)
            try simp only [List.getElem_toArray, List.getElem_cons_succ, List.getElem_cons_zero, Act.put, List.setIfInBounds_toArray, List.set_cons_zero, List.set_cons_succ]
            refine wpAnyG_take (L := 19) (i := 8) (v := .pointer (some ⟨w.heap.size, 2, none⟩)) rfl (by kernel_rfl) (by kernel_rfl) (by kernel_rfl) (by kernel_rfl) (fun _ _ _ h => h) (by rfl) hS0 (fun wS hS => ?_) ?_
            · obtain ⟨hq0, hq1, hq2, hq3⟩ := hS
              first | (go_simp; done) | (go_simp; with_reducible rfl)
            try simp only [List.getElem_toArray, List.getElem_cons_succ, List.getElem_cons_zero, Act.put, List.setIfInBounds_toArray, List.set_cons_zero, List.set_cons_succ]
            refine wpAnyG_take (L := 19) (i := 9) (v := .slice (some ⟨g, o, none⟩) x.enums.length ec) rfl (by kernel_rfl) (by kernel_rfl) (by kernel_rfl) (by kernel_rfl) (fun _ _ _ h => h) (by rfl) hS0 (fun wS hS => ?_) ?_
            · obtain ⟨hq0, hq1, hq2, hq3⟩ := hS
              first | (go_simp; done) | (go_simp; with_reducible rfl)
            try simp only [List.getElem_toArray, List.getElem_cons_succ, List.getElem_cons_zero, Act.put, List.setIfInBounds_toArray, List.set_cons_zero, List.set_cons_succ]
            refine wpAnyG_take (L := 19) (i := 10) (v := .int .i64 k) rfl (by kernel_rfl) (by kernel_rfl) (by kernel_rfl) (by kernel_rfl) (fun _ _ _ h => h) (by rfl) hS0 (fun wS hS => ?_) ?_
            · obtain ⟨hq0, hq1, hq2, hq3⟩ := hS
              first | (go_simp; done) | (go_simp; with_reducible rfl)
            try simp only [List.getElem_toArray, List.getElem_cons_succ, List.getElem_cons_zero, Act.put, List.setIfInBounds_toArray, List.set_cons_zero, List.set_cons_succ]
            refine wpAnyG_take (L := 19) (i := 11) (v := .pointer (some ⟨g, o + k * 2, none⟩)) rfl (by kernel_rfl) (by kernel_rfl) (by kernel_rfl) (by kernel_rfl) (fun _ _ _ h => h) (by rfl) hS0 (fun wS hS => ?_) ?_
            · obtain ⟨hq0, hq1, hq2, hq3⟩ := hS
              first | (go_simp; done) | (go_simp; with_reducible rfl)
            try simp only [List.getElem_toArray, List.getElem_cons_succ, List.getElem_cons_zero, Act.put, List.setIfInBounds_toArray, List.set_cons_zero, List.set_cons_succ]
            refine wpAnyG_take (L := 19) (i := 12) (v := .pointer (some ⟨g, o + k * 2 + 1, none⟩)) rfl (by kernel_rfl) (by kernel_rfl) (by kernel_rfl) (by kernel_rfl) (fun _ _ _ h => h) (by rfl) hS0 (fun wS hS => ?_) ?_
            · obtain ⟨hq0, hq1, hq2, hq3⟩ := hS
              first | (go_simp; done) | (go_simp; with_reducible rfl)
            try simp only [List.getElem_toArray, List.getElem_cons_succ, List.getElem_cons_zero, Act.put, List.setIfInBounds_toArray, List.set_cons_zero, List.set_cons_succ]
            refine wpAnyG_take (L := 19) (i := 13) (v := .slice fA m.values.length fc) rfl (by kernel_rfl) (by kernel_rfl) (by kernel_rfl) (by kernel_rfl) (fun _ _ _ h => h) (by rfl) hS0 (fun wS hS => ?_) ?_
            · obtain ⟨hq0, hq1, hq2, hq3⟩ := hS
              first | (go_simp; done) | (go_simp; with_reducible rfl)
            try simp only [List.getElem_toArray, List.getElem_cons_succ, List.getElem_cons_zero, Act.put, List.setIfInBounds_toArray, List.set_cons_zero, List.set_cons_succ]
            refine wpAnyG_one (i := 14) rfl (by kernel_rfl) (fun K hK => ?_)
            simp (proj := false) only [List.getElem_toArray, List.getElem_cons_succ, List.getElem_cons_zero]
            refine step_clone (by rfl) _ _ _ (by rfl) 49 _ 2 24 Tryz.underlying45 infoNamed rfl (by decide) (by rfl) fA m.values.length fc _ (by rfl) (hrf.out _ hB0) (nameds_one _) (by omega) (by omega) ?_
            intro fA2 fc2 w2 hof hb2
            have hB2 := below_on hB0 hb2
            have hS2 := hcb.out _ hB2
            refine hK.out _ _ (fun _ => hS2) ?_
            clear hK K
            try simp only [List.getElem_toArray, List.getElem_cons_succ, List.getElem_cons_zero, Act.put, List.setIfInBounds_toArray, List.set_cons_zero, List.set_cons_succ]
            refine wpAnyG_take (L := 19) (i := 15) (v := .agg #[.string m.name, .slice fA2 m.values.length fc2]) rfl (by kernel_rfl) (by kernel_rfl) (by kernel_rfl) (by kernel_rfl) (fun _ _ _ h => h) (by rfl) hS2 (fun wS hS => ?_) ?_
            · obtain ⟨hq0, hq1, hq2, hq3⟩ := hS
              first | (go_simp; done) | (go_simp; with_reducible rfl)
            try simp only [List.getElem_toArray, List.getElem_cons_succ, List.getElem_cons_zero, Act.put, List.setIfInBounds_toArray, List.set_cons_zero, List.set_cons_succ]
            refine wpAnyG_one (i := 16) rfl (by kernel_rfl) (fun K hK => ?_)
            simp (proj := false) only [List.getElem_toArray, List.getElem_cons_succ, List.getElem_cons_zero]
            go_simp
            have hB3a := below_on hB2 ((Below.refl _ w2).alloc (Nat.le_refl _) (.cells #[.string m.name, .slice fA2 m.values.length fc2] 47))
            have hS3a := hcb.out _ hB3a
            refine hK.out _ _ (fun _ => hS3a) ?_
            clear hK K
            try simp only [List.getElem_toArray, List.getElem_cons_succ, List.getElem_cons_zero, Act.put, List.setIfInBounds_toArray, List.set_cons_zero, List.set_cons_succ]
            refine wpAnyG_one (i := 17) rfl (by kernel_rfl) (fun K hK => ?_)
            simp (proj := false) only [List.getElem_toArray, List.getElem_cons_succ, List.getElem_cons_zero]
            have hszw : w.heap.size + 2 ≤ (w2.alloc (.cells #[.string m.name, .slice fA2 m.values.length fc2] 47)).heap.size := by have := hB3a.size; omega
            refine step_push (by rfl) _ _ _ (by rfl) (w.heap.size + 2) 47 _ 2 40 Tryz.underlying23 infoEnum rfl (by decide) (by decide) vek k ek #[.string m.name, .slice fA2 m.values.length fc2] w2.heap.size (by rfl) (hrw.out _ hB3a) (heap_alloc_new w2 _) (by rfl) rfl two_one (by omega) hszw ?_
            intro A4 c4 w4 hown4 hbl4 hg4
            have hbt3 := hbt0.out _ hB3a
            have hbt4 := (hg4.block bt (blk_lt hbt3) (own_ne_blk (hrw.out _ hB3a) hbt3 (by decide))).trans hbt3
            have hk4 := blk_cell hbt4 2
            have hf4 := blk_frozen hbt4 2
            simp only [List.getElem?_toArray, List.getElem?_cons_succ, List.getElem?_cons_zero] at hk4
            have hA4 : SchA w #[.string x.name, .slice mA x.messages.length mc, .slice (some ⟨g, o, none⟩) x.enums.length ec, .slice cA x.methods.length cc] w4 := SchA.row (hcr.out.a.under hB3a) hg4 (fun j hj => ((hrw.out _ hB3a).lt j hj).1)
            have hS4 : S10 bt w.heap.size g (o + k * 2) vek (.slice (some ⟨g, o, none⟩) x.enums.length ec) (.string m.name) (.slice fA m.values.length fc) w4 := ⟨hk4, blk_cell hA4.s 2, (hat.out w4 hA4.below).1, (hat.out w4 hA4.below).2⟩
            refine hK.out _ _ (fun _ => hS4) ?_
            clear hK K
            try simp only [List.getElem_toArray, List.getElem_cons_succ, List.getElem_cons_zero, Act.put, List.setIfInBounds_toArray, List.set_cons_zero, List.set_cons_succ]
            refine wpAnyG_take (L := 19) (i := 18) (v := .pointer (some ⟨bt, 2, none⟩)) rfl (by kernel_rfl) (by kernel_rfl) (by kernel_rfl) (by kernel_rfl) (fun _ _ _ h => h) (by rfl) hS4 (fun wS hS => ?_) ?_
            · obtain ⟨hq0, hq1, hq2, hq3⟩ := hS
              first | (go_simp; done) | (go_simp; with_reducible rfl)
            try simp only [List.getElem_toArray, List.getElem_cons_succ, List.getElem_cons_zero, Act.put, List.setIfInBounds_toArray, List.set_cons_zero, List.set_cons_succ]
            refine wpAnyG_one (i := 19) rfl (by kernel_rfl) (fun K hK => ?_)
            simp (proj := false) only [List.getElem_toArray, List.getElem_cons_succ, List.getElem_cons_zero]
            have hfin : Hid (CopyF w #[.string x.name, .slice mA x.messages.length mc, .slice (some ⟨g, o, none⟩) x.enums.length ec, .slice cA x.methods.length cc] x bt vct (k + 1) (w4.setCell ⟨bt, 2, none⟩ (.slice A4 (k + 1) c4))) := Lib.hid
              ⟨_, _, _, _, hstep.out _ _ _ _ _ _ hB3a (own_mono (hof.alloc _) (Nat.le_refl _)) hown4 hg4⟩
            replace hown4 := Lib.hid hown4; replace hbl4 := Lib.hid hbl4; replace hg4 := Lib.hid hg4; replace hS4 := Lib.hid hS4; replace hbt3 := Lib.hid hbt3; replace hbt4 := Lib.hid hbt4; replace hof := Lib.hid hof; replace hb2 := Lib.hid hb2; replace hB3a := Lib.hid hB3a; replace hB2 := Lib.hid hB2; replace hB0 := Lib.hid hB0; replace hS0 := Lib.hid hS0; replace hS2 := Lib.hid hS2; replace hS3a := Lib.hid hS3a; replace hA4 := Lib.hid hA4
            go_simp
            refine hK.out _ _ (fun h => absurd rfl h) ?_
            clear hK K
            try simp only [List.getElem_toArray, List.getElem_cons_succ, List.getElem_cons_zero, Act.put, List.setIfInBounds_toArray, List.set_cons_zero, List.set_cons_succ]
            refine wpAnyG_done (by kernel_rfl) ?_
            go_wp2
            go_roundw
            case rel => exact ⟨k + 1, by omega, by go_num, hfin.out⟩
            case measure => simp [intOf]; omega
          · have hke : k = x.enums.length := by omega
            subst hke
            have hnlt2 : ¬ ((x.enums.length : Int) < (x.enums.length : Int)) := by omega
            have hx0 := blk_cell hcr.t 0
            have hx1 := blk_cell hcr.t 1
            have hx2 := blk_cell hcr.t 2
            have hx3 := blk_cell hcr.t 3
            have hy0 := blk_cell hcr.a.r 0
            have hy1 := blk_cell hcr.a.r 1
            have hy2 := blk_cell hcr.a.r 2
            have hy3 := blk_cell hcr.a.r 3
            have hz := blk_frozen hcr.a.r
            simp only [List.getElem?_toArray, List.getElem?_cons_succ, List.getElem?_cons_zero] at hx0 hx1 hx2 hx3 hy0 hy1 hy2 hy3
            obtain ⟨nA, nc, rfl⟩ := own_slice hcr.row
            obtain ⟨iA, ic, rfl⟩ := own_slice hcr.erow
            obtain ⟨jA, jc, rfl⟩ := own_slice hcr.meth
            have hown : OwnSchema wr (w.heap.size + 2) wr.heap.size x (.slice nA x.messages.length nc) (.slice iA x.enums.length ic) (.slice jA x.methods.length jc) :=
              ⟨mk, ek, hcr.row, hcr.erow, hcr.meth, hcr.msgs, by have := hcr.ens; rw [List.take_length] at this; exact this⟩
            obtain ⟨wl, rfl⟩ : ∃ wo : World, wo = wr := ⟨_, rfl⟩
            have hfin := Lib.hid (((hown.same (fun j hj => set4_same (b := w.heap.size + 1) (.string x.name) (.slice nA x.messages.length nc) (.slice iA x.enums.length ic) (.slice jA x.methods.length jc) j (by omega))).wider (B' := w.heap.size) (by omega) (Nat.le_refl _)))
            have hbl := Lib.hid hcr.a.below
            replace hcr := Lib.hid hcr; replace hown := Lib.hid hown
            go_wp2
            refine bodyPost_ret (v := .agg #[.string x.name, .slice nA x.messages.length nc, .slice iA x.enums.length ic, .slice jA x.methods.length jc]) (by simp [results, Tryz.results11, go_sem, *]) rfl ?_
            refine ⟨_, _, _, rfl, ?_, ?_⟩
            · exact hfin.out.wider (Nat.le_refl _) (by simp [World.setCell])
            · exact hbl.out.setCell (by simp) _ |>.setCell (by simp) _ |>.setCell (by simp) _ |>.setCell (by simp) _

end Go.Proofs.YtkpgaccgcdoijaaGreatDoor

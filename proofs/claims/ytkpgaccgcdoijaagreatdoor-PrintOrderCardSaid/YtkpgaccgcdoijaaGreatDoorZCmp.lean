import Derived.Test.YtkpgaccgcdoijaaGreatDoorZPr
import Derived.Shelf.SlSortCmp.InsertionK
namespace Go.Proofs.YtkpgaccgcdoijaaGreatDoor
open Go.RowKit

set_option maxRecDepth 100000 in
theorem canon1_calls (f g : FieldD) (w : World) :
    Calls Tryz.prog 28 #[.agg (fieldCells f).toArray, .agg (fieldCells g).toArray] w fun e w' => e = .returned (.int .i64 (Lib.compareInt f.tag g.tag)) ∧ w' = (w.alloc (.cells (fieldCells f).toArray 44)).alloc (.cells (fieldCells g).toArray 44) := by
  obtain ⟨fn, ft, fl, fk, fty⟩ := f
  obtain ⟨gn, gt, gl, gk, gty⟩ := g
  have cC := fun W => Tryz.cmp_Compare_int ft gt W
  simp only [fieldCells]
  replace cC := Lib.hid cC
  go_enter Tryz.func28, Tryz.ntmps28
  go_wp2_with fail
  refine (cC.out _).mono ?_; rintro e w1 ⟨rfl, rfl⟩
  go_wp2
  go_ret
  exact ⟨rfl, rfl⟩

set_option maxRecDepth 100000 in
theorem canon2_calls (f g : NamedD) (w : World) :
    Calls Tryz.prog 35 #[.agg (namedCells f).toArray, .agg (namedCells g).toArray] w fun e w' => e = .returned (.int .i64 (Lib.compareInt f.n g.n)) ∧ w' = (w.alloc (.cells (namedCells f).toArray 49)).alloc (.cells (namedCells g).toArray 49) := by
  obtain ⟨fn, ft⟩ := f
  obtain ⟨gn, gt⟩ := g
  have cC := fun W => Tryz.cmp_Compare_int ft gt W
  simp only [namedCells]
  replace cC := Lib.hid cC
  go_enter Tryz.func35, Tryz.ntmps35
  go_wp2_with fail
  refine (cC.out _).mono ?_; rintro e w1 ⟨rfl, rfl⟩
  go_wp2
  go_ret
  exact ⟨rfl, rfl⟩

instance : Inhabited FieldD := ⟨⟨noText, 0, 0, 0, noText⟩⟩
instance : Inhabited NamedD := ⟨⟨noText, 0⟩⟩
theorem cmp1_lays (blk off size : Nat) (w : World) : CmpLays Tryz.prog 28 #[] fieldCells 5 (fun f g => Lib.compareInt f.tag g.tag) blk off size w := by
  intro m os dk hs x y
  refine (canon1_calls x y _).mono ?_
  rintro e w' ⟨rfl, rfl⟩
  exact ⟨rfl, 0, #[.cells (fieldCells x).toArray 44, .cells (fieldCells y).toArray 44], rfl⟩
theorem cmp2_lays (blk off size : Nat) (w : World) : CmpLays Tryz.prog 35 #[] namedCells 2 (fun f g => Lib.compareInt f.n g.n) blk off size w := by
  intro m os dk hs x y
  refine (canon2_calls x y _).mono ?_
  rintro e w' ⟨rfl, rfl⟩
  exact ⟨rfl, 0, #[.cells (namedCells x).toArray 49, .cells (namedCells y).toArray 49], rfl⟩

end Go.Proofs.YtkpgaccgcdoijaaGreatDoor

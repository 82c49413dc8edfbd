import Derived.Test.YtkpgaccgcdoijaaGreatDoorZSrt1
import Derived.Shelf.SlSortFuncK.SWK
namespace Go.Proofs.YtkpgaccgcdoijaaGreatDoor
open Go.RowKit Go.Sort

theorem ins_idle_field (d : Array FieldD) (n : Nat) : insertionSort (keyLt FieldD.tag) d n n = d := by
  unfold insertionSort
  rw [insOuter, if_neg (by omega)]

set_option maxHeartbeats 1600000 in
set_option maxRecDepth 100000 in
theorem stable_field (g cap : Nat) (d : Array FieldD) (w : World) (hH : HoldsK fieldCells 5 w g 0 d) (hg : g < w.heap.size) (h20 : d.size ≤ 20) :
    Calls Tryz.prog 54 #[.slice (some ⟨g, 0, none⟩) d.size cap, .int .i64 d.size, .func (.func 28) #[] #[]] w fun e w' =>
      e = .returned (.tuple #[]) ∧ SWK fieldCells 5 w g 0 (insertionSort (keyLt FieldD.tag) d 0 d.size) w' := by
  have hc := ins_field g cap 0 d.size d w hH hg (Nat.zero_le _) (Nat.le_refl _) (by omega)
  have hs1 := (insertionSort_filter FieldD.tag 0 d.size 0 d (Nat.le_refl _)).2
  have hn : ∀ W, SWK fieldCells 5 w g 0 (insertionSort (keyLt FieldD.tag) d 0 d.size) W → Calls Tryz.prog 82 #[.slice (some ⟨g, 0, none⟩) d.size cap, .int .i64 d.size, .int .i64 d.size, .func (.func 28) #[] #[]] W fun e w' =>
      e = .returned (.tuple #[]) ∧ SWK fieldCells 5 w g 0 (insertionSort (keyLt FieldD.tag) d 0 d.size) w' := by
    intro W hW
    have h := ins_field g cap d.size d.size (insertionSort (keyLt FieldD.tag) d 0 d.size) W (hW.holds hg hH hs1) (hW.lt hg) (Nat.le_refl _) (by omega) (by omega)
    rw [hs1, ins_idle_field] at h
    refine h.mono ?_
    rintro e w' ⟨rfl, n, os, rfl⟩
    exact ⟨rfl, hW.on hg n _ os rfl⟩
  replace hH := Lib.hid hH
  replace hs1 := Lib.hid hs1
  by_cases hlt : d.size < 20
  · have hlt' : (d.size : Int) < 20 := by omega
    replace hc := Lib.hid hc; replace hn := Lib.hid hn
    go_enter Tryz.func54, Tryz.ntmps54
    go_wp2
    refine wp_loop_rounds 1 ?_
    rw [rounds_succ]
    go_wp2_with fail
    refine hc.out.mono ?_; rintro e w1 ⟨rfl, n, os, hw⟩
    have hfin : Hid (SWK fieldCells 5 w g 0 (insertionSort (keyLt FieldD.tag) d 0 d.size) w1) := Lib.hid ⟨n, os, hw⟩
    clear hw
    go_wp2
    refine wp_loop_rounds 1 ?_
    rw [rounds_succ]
    go_wp2
    go_end0
    exact ⟨rfl, hfin.out⟩
  · have he : d.size = 20 := by omega
    rw [he] at hc hn ⊢
    replace hc := Lib.hid hc; replace hn := Lib.hid hn
    replace he := Lib.hid he
    clear hlt h20
    go_enter Tryz.func54, Tryz.ntmps54
    go_wp2
    refine wp_loop_rounds 2 ?_
    rw [rounds_succ]
    go_wp2_with fail
    refine hc.out.mono ?_; rintro e w1 ⟨rfl, n, os, hw⟩
    have h1 : Hid (SWK fieldCells 5 w g 0 (insertionSort (keyLt FieldD.tag) d 0 20) w1) := Lib.hid ⟨n, os, hw⟩
    clear hw
    go_wp2
    rw [rounds_succ]
    go_wp2_with fail
    refine (hn.out _ h1.out).mono ?_; rintro e w2 ⟨rfl, h2⟩
    replace h2 := Lib.hid h2
    go_wp2
    refine wp_loop_rounds 1 ?_
    rw [rounds_succ]
    go_wp2
    go_end0
    exact ⟨rfl, h2.out⟩

set_option maxHeartbeats 1600000 in
set_option maxRecDepth 100000 in
theorem stable_none_field (A : Option Addr) (cap : Nat) (w : World) :
    Calls Tryz.prog 54 #[.slice A 0 cap, .int .i64 0, .func (.func 28) #[] #[]] w fun e w' => e = .returned (.tuple #[]) ∧ w' = w := by
  have hi : Calls Tryz.prog 82 #[.slice A 0 cap, .int .i64 0, .int .i64 0, .func (.func 28) #[] #[]] w fun e w' => e = .returned (.tuple #[]) ∧ w' = w := by
    go_enter Tryz.func82, Tryz.ntmps82
    go_wp2
    refine wp_loop_rounds 1 ?_
    rw [rounds_succ]
    go_wp2
    go_end0
    exact ⟨rfl, rfl⟩
  replace hi := Lib.hid hi
  go_enter Tryz.func54, Tryz.ntmps54
  go_wp2
  refine wp_loop_rounds 1 ?_
  rw [rounds_succ]
  go_wp2_with fail
  refine hi.out.mono ?_; rintro e w1 ⟨rfl, rfl⟩
  go_wp2
  refine wp_loop_rounds 1 ?_
  rw [rounds_succ]
  go_wp2
  go_end0
  exact ⟨rfl, rfl⟩

/-- slices.SortStableFunc on a row of the call's own. -/
theorem sortStable_field (B : Nat) (A : Option Addr) (cap : Nat) (l : List FieldD) (w : World) (hown : w.ownsRow B 44 5 (.slice A l.length cap) l.length (l.flatMap fieldCells)) (h20 : l.length ≤ 20) :
    Calls Tryz.prog 27 #[.slice A l.length cap, .func (.func 28) #[] #[]] w fun e w' =>
      e = .returned (.tuple #[]) ∧ w'.ownsRow B 44 5 (.slice A l.length cap) l.length ((sortBy FieldD.tag l).flatMap fieldCells) ∧ w.grownBy w' (Value.slice A l.length cap).ownBlock := by
  rcases hown.2 with ⟨h1, h2⟩ | ⟨g, cap', cur, h1, hb, hh, _⟩
  · have hl : l = [] := List.length_eq_zero_iff.1 h2
    subst hl
    injection h1 with h3 _ h4
    subst h3; subst h4
    have hs := stable_none_field none 0 w
    replace hs := Lib.hid hs
    have hfin := Lib.hid hown
    clear hown h2
    simp only [List.length_nil]
    rw [show sortBy FieldD.tag ([] : List FieldD) = [] by simp [sortBy]]
    go_enter Tryz.func27, Tryz.ntmps27
    go_wp2_with fail
    refine hs.out.mono ?_; rintro e w1 ⟨rfl, rfl⟩
    go_wp2
    go_end0
    exact ⟨rfl, hfin.out, ⟨rfl, rfl, rfl, Nat.le_refl _, fun _ _ _ => rfl⟩⟩
  · injection h1 with h3 _ h4
    subst h3; subst h4
    have hg := (Array.getElem?_eq_some_iff.1 hh).1
    have hfl := flatK_list fieldCells 5 (fun _ => rfl) l
    have hs := stable_field g cap l.toArray w (own_holds hown hfl) hg (by simpa using h20)
    have his := insertion_is FieldD.tag l.toArray
    have hsz := (insertionSort_filter FieldD.tag 0 l.toArray.size 0 l.toArray (Nat.le_refl _)).2
    have hpost : ∀ w', SWK fieldCells 5 w g 0 (insertionSort (keyLt FieldD.tag) l.toArray 0 l.toArray.size) w' → w'.ownsRow B 44 5 (.slice (some ⟨g, 0, none⟩) l.length cap) l.length ((sortBy FieldD.tag l).flatMap fieldCells) ∧ w.grownBy w' (some g) := by
      rintro w' ⟨n, os, rfl⟩
      have hr : insertionSort (keyLt FieldD.tag) l.toArray 0 l.toArray.size = (sortBy FieldD.tag l).toArray := Array.toList_inj.1 (by rw [his])
      rw [hr]
      have hF : (flatK fieldCells 5 (sortBy FieldD.tag l).toArray).size = l.length * 5 := by
        rw [size_flatK, List.size_toArray, (sortBy_perm FieldD.tag l).length_eq]
      have ho := own_put hown (flatK fieldCells 5 (sortBy FieldD.tag l).toArray) hF n os
      rw [flatK_list fieldCells 5 (fun _ => rfl)] at ho
      exact ⟨ho, put_grown w n g _ os⟩
    rw [List.size_toArray] at hs hpost
    replace hs := Lib.hid hs; replace hpost := Lib.hid hpost; replace his := Lib.hid his; replace hsz := Lib.hid hsz; replace hfl := Lib.hid hfl; replace hh := Lib.hid hh; replace hown := Lib.hid hown
    go_enter Tryz.func27, Tryz.ntmps27
    go_wp2_with fail
    refine hs.out.mono ?_; rintro e w1 ⟨rfl, h1⟩
    have hfin := Lib.hid (hpost.out _ h1)
    clear h1
    go_wp2
    go_end0
    exact ⟨rfl, hfin.out.1, hfin.out.2⟩

theorem ins_idle_named (d : Array NamedD) (n : Nat) : insertionSort (keyLt NamedD.n) d n n = d := by
  unfold insertionSort
  rw [insOuter, if_neg (by omega)]

set_option maxHeartbeats 1600000 in
set_option maxRecDepth 100000 in
theorem stable_named (g cap : Nat) (d : Array NamedD) (w : World) (hH : HoldsK namedCells 2 w g 0 d) (hg : g < w.heap.size) (h20 : d.size ≤ 20) :
    Calls Tryz.prog 58 #[.slice (some ⟨g, 0, none⟩) d.size cap, .int .i64 d.size, .func (.func 35) #[] #[]] w fun e w' =>
      e = .returned (.tuple #[]) ∧ SWK namedCells 2 w g 0 (insertionSort (keyLt NamedD.n) d 0 d.size) w' := by
  have hc := ins_named g cap 0 d.size d w hH hg (Nat.zero_le _) (Nat.le_refl _) (by omega)
  have hs1 := (insertionSort_filter NamedD.n 0 d.size 0 d (Nat.le_refl _)).2
  have hn : ∀ W, SWK namedCells 2 w g 0 (insertionSort (keyLt NamedD.n) d 0 d.size) W → Calls Tryz.prog 95 #[.slice (some ⟨g, 0, none⟩) d.size cap, .int .i64 d.size, .int .i64 d.size, .func (.func 35) #[] #[]] W fun e w' =>
      e = .returned (.tuple #[]) ∧ SWK namedCells 2 w g 0 (insertionSort (keyLt NamedD.n) d 0 d.size) w' := by
    intro W hW
    have h := ins_named g cap d.size d.size (insertionSort (keyLt NamedD.n) d 0 d.size) W (hW.holds hg hH hs1) (hW.lt hg) (Nat.le_refl _) (by omega) (by omega)
    rw [hs1, ins_idle_named] at h
    refine h.mono ?_
    rintro e w' ⟨rfl, n, os, rfl⟩
    exact ⟨rfl, hW.on hg n _ os rfl⟩
  replace hH := Lib.hid hH
  replace hs1 := Lib.hid hs1
  by_cases hlt : d.size < 20
  · have hlt' : (d.size : Int) < 20 := by omega
    replace hc := Lib.hid hc; replace hn := Lib.hid hn
    go_enter Tryz.func58, Tryz.ntmps58
    go_wp2
    refine wp_loop_rounds 1 ?_
    rw [rounds_succ]
    go_wp2_with fail
    refine hc.out.mono ?_; rintro e w1 ⟨rfl, n, os, hw⟩
    have hfin : Hid (SWK namedCells 2 w g 0 (insertionSort (keyLt NamedD.n) d 0 d.size) w1) := Lib.hid ⟨n, os, hw⟩
    clear hw
    go_wp2
    refine wp_loop_rounds 1 ?_
    rw [rounds_succ]
    go_wp2
    go_end0
    exact ⟨rfl, hfin.out⟩
  · have he : d.size = 20 := by omega
    rw [he] at hc hn ⊢
    replace hc := Lib.hid hc; replace hn := Lib.hid hn
    replace he := Lib.hid he
    clear hlt h20
    go_enter Tryz.func58, Tryz.ntmps58
    go_wp2
    refine wp_loop_rounds 2 ?_
    rw [rounds_succ]
    go_wp2_with fail
    refine hc.out.mono ?_; rintro e w1 ⟨rfl, n, os, hw⟩
    have h1 : Hid (SWK namedCells 2 w g 0 (insertionSort (keyLt NamedD.n) d 0 20) w1) := Lib.hid ⟨n, os, hw⟩
    clear hw
    go_wp2
    rw [rounds_succ]
    go_wp2_with fail
    refine (hn.out _ h1.out).mono ?_; rintro e w2 ⟨rfl, h2⟩
    replace h2 := Lib.hid h2
    go_wp2
    refine wp_loop_rounds 1 ?_
    rw [rounds_succ]
    go_wp2
    go_end0
    exact ⟨rfl, h2.out⟩

set_option maxHeartbeats 1600000 in
set_option maxRecDepth 100000 in
theorem stable_none_named (A : Option Addr) (cap : Nat) (w : World) :
    Calls Tryz.prog 58 #[.slice A 0 cap, .int .i64 0, .func (.func 35) #[] #[]] w fun e w' => e = .returned (.tuple #[]) ∧ w' = w := by
  have hi : Calls Tryz.prog 95 #[.slice A 0 cap, .int .i64 0, .int .i64 0, .func (.func 35) #[] #[]] w fun e w' => e = .returned (.tuple #[]) ∧ w' = w := by
    go_enter Tryz.func95, Tryz.ntmps95
    go_wp2
    refine wp_loop_rounds 1 ?_
    rw [rounds_succ]
    go_wp2
    go_end0
    exact ⟨rfl, rfl⟩
  replace hi := Lib.hid hi
  go_enter Tryz.func58, Tryz.ntmps58
  go_wp2
  refine wp_loop_rounds 1 ?_
  rw [rounds_succ]
  go_wp2_with fail
  refine hi.out.mono ?_; rintro e w1 ⟨rfl, rfl⟩
  go_wp2
  refine wp_loop_rounds 1 ?_
  rw [rounds_succ]
  go_wp2
  go_end0
  exact ⟨rfl, rfl⟩

/-- slices.SortStableFunc on a row of the call's own. -/
theorem sortStable_named (B : Nat) (A : Option Addr) (cap : Nat) (l : List NamedD) (w : World) (hown : w.ownsRow B 49 2 (.slice A l.length cap) l.length (l.flatMap namedCells)) (h20 : l.length ≤ 20) :
    Calls Tryz.prog 34 #[.slice A l.length cap, .func (.func 35) #[] #[]] w fun e w' =>
      e = .returned (.tuple #[]) ∧ w'.ownsRow B 49 2 (.slice A l.length cap) l.length ((sortBy NamedD.n l).flatMap namedCells) ∧ w.grownBy w' (Value.slice A l.length cap).ownBlock := by
  rcases hown.2 with ⟨h1, h2⟩ | ⟨g, cap', cur, h1, hb, hh, _⟩
  · have hl : l = [] := List.length_eq_zero_iff.1 h2
    subst hl
    injection h1 with h3 _ h4
    subst h3; subst h4
    have hs := stable_none_named none 0 w
    replace hs := Lib.hid hs
    have hfin := Lib.hid hown
    clear hown h2
    simp only [List.length_nil]
    rw [show sortBy NamedD.n ([] : List NamedD) = [] by simp [sortBy]]
    go_enter Tryz.func34, Tryz.ntmps34
    go_wp2_with fail
    refine hs.out.mono ?_; rintro e w1 ⟨rfl, rfl⟩
    go_wp2
    go_end0
    exact ⟨rfl, hfin.out, ⟨rfl, rfl, rfl, Nat.le_refl _, fun _ _ _ => rfl⟩⟩
  · injection h1 with h3 _ h4
    subst h3; subst h4
    have hg := (Array.getElem?_eq_some_iff.1 hh).1
    have hfl := flatK_list namedCells 2 (fun _ => rfl) l
    have hs := stable_named g cap l.toArray w (own_holds hown hfl) hg (by simpa using h20)
    have his := insertion_is NamedD.n l.toArray
    have hsz := (insertionSort_filter NamedD.n 0 l.toArray.size 0 l.toArray (Nat.le_refl _)).2
    have hpost : ∀ w', SWK namedCells 2 w g 0 (insertionSort (keyLt NamedD.n) l.toArray 0 l.toArray.size) w' → w'.ownsRow B 49 2 (.slice (some ⟨g, 0, none⟩) l.length cap) l.length ((sortBy NamedD.n l).flatMap namedCells) ∧ w.grownBy w' (some g) := by
      rintro w' ⟨n, os, rfl⟩
      have hr : insertionSort (keyLt NamedD.n) l.toArray 0 l.toArray.size = (sortBy NamedD.n l).toArray := Array.toList_inj.1 (by rw [his])
      rw [hr]
      have hF : (flatK namedCells 2 (sortBy NamedD.n l).toArray).size = l.length * 2 := by
        rw [size_flatK, List.size_toArray, (sortBy_perm NamedD.n l).length_eq]
      have ho := own_put hown (flatK namedCells 2 (sortBy NamedD.n l).toArray) hF n os
      rw [flatK_list namedCells 2 (fun _ => rfl)] at ho
      exact ⟨ho, put_grown w n g _ os⟩
    rw [List.size_toArray] at hs hpost
    replace hs := Lib.hid hs; replace hpost := Lib.hid hpost; replace his := Lib.hid his; replace hsz := Lib.hid hsz; replace hfl := Lib.hid hfl; replace hh := Lib.hid hh; replace hown := Lib.hid hown
    go_enter Tryz.func34, Tryz.ntmps34
    go_wp2_with fail
    refine hs.out.mono ?_; rintro e w1 ⟨rfl, h1⟩
    have hfin := Lib.hid (hpost.out _ h1)
    clear h1
    go_wp2
    go_end0
    exact ⟨rfl, hfin.out.1, hfin.out.2⟩

/-- slices.Sort on a row of ints of the call's own. -/
theorem sortInts_calls (B : Nat) (A : Option Addr) (cap : Nat) (l : List Int) (w : World) (hown : w.ownsRow B 3 1 (.slice A l.length cap) l.length (intsCells l)) (hl : l.length < 4611686018427387904) :
    Calls Tryz.prog 31 #[.slice A l.length cap] w fun e w' =>
      e = .returned (.tuple #[]) ∧ w'.ownsRow B 3 1 (.slice A l.length cap) l.length (intsCells (sortBy id l)) ∧ w.grownBy w' (Value.slice A l.length cap).ownBlock := by
  rcases hown.2 with ⟨h1, h2⟩ | ⟨g, cap', cur, h1, hb, hh, _⟩
  · have hl0 : l = [] := List.length_eq_zero_iff.1 h2
    subst hl0
    refine (Tryz.slices_Sort_int_none A cap w).mono ?_
    rintro e w' ⟨rfl, rfl⟩
    exact ⟨rfl, by rw [show sortBy id ([] : List Int) = [] by simp [sortBy]]; exact hown, ⟨rfl, rfl, rfl, Nat.le_refl _, fun _ _ _ => rfl⟩⟩
  · injection h1 with h3 _ h4
    subst h3; subst h4
    have hg := (Array.getElem?_eq_some_iff.1 hh).1
    have hH : Holds (Value.int .i64) w g 0 l.toArray := by
      have h := own_holds hown (F := l.toArray.map (Value.int .i64)) (by simp [intsCells])
      intro j hj
      have := h j (by simpa using hj)
      rw [getElem!_pos _ j (by simpa using hj)] at this
      rw [getElem!_pos _ j hj]
      simpa using this
    refine (Tryz.slices_Sort_int g 0 cap l w hH hg hl).mono ?_
    rintro e w' ⟨rfl, n, os, rfl⟩
    rw [putRow_map]
    have hF : (((l.mergeSort fun x y => decide (x ≤ y)).toArray).map (Value.int .i64)).size = l.length * 1 := by
      simp
    have ho := own_put hown _ hF n os
    refine ⟨rfl, ?_, put_grown w n g _ os⟩
    have he : ((((l.mergeSort fun x y => decide (x ≤ y)).toArray).map (Value.int .i64))).toList = intsCells (sortBy id l) := by
      simp [intsCells, sortBy]
    rw [he] at ho
    exact ho

end Go.Proofs.YtkpgaccgcdoijaaGreatDoor

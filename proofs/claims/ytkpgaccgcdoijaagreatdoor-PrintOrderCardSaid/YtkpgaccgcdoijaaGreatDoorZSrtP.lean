import Derived.Sort.LotA
namespace Go.Proofs.YtkpgaccgcdoijaaGreatDoor
open Go.Sort

/-! ### sorting by a whole number's key, in plain Lean -/
def sortBy {α : Type} (key : α → Int) (l : List α) : List α := l.mergeSort fun a b => decide (key a ≤ key b)
def keyIs {α : Type} (key : α → Int) (v : Int) (a : α) : Bool := decide (key a = v)

theorem sortBy_perm {α : Type} (key : α → Int) (l : List α) : (sortBy key l).Perm l := List.mergeSort_perm l _
theorem sortBy_sorted {α : Type} (key : α → Int) (l : List α) : (sortBy key l).Pairwise fun a b => key a ≤ key b := by
  have := List.pairwise_mergeSort (le := fun a b => decide (key a ≤ key b)) (l := l) (by intro a b c; simp; omega) (by intro a b; simp; omega)
  exact this.imp (by intro a b h; simpa using h)
theorem sortBy_filter {α : Type} (key : α → Int) (l : List α) (v : Int) : (sortBy key l).filter (keyIs key v) = l.filter (keyIs key v) := by
  have h1 : (l.filter (keyIs key v)).Pairwise fun a b => (decide (key a ≤ key b)) = true := by
    rw [List.pairwise_filter]
    refine List.Pairwise.imp (R := fun _ _ => True) ?_ (List.pairwise_iff_forall_sublist.2 fun _ => trivial)
    intro a b _ ha hb
    simp only [keyIs, decide_eq_true_eq] at ha hb ⊢
    omega
  have h2 : (l.filter (keyIs key v)).Sublist (sortBy key l) :=
    List.sublist_mergeSort (le := fun a b => decide (key a ≤ key b)) (by intro a b c; simp; omega) (by intro a b; simp; omega) h1 List.filter_sublist
  have h3 := h2.filter (keyIs key v)
  rw [List.filter_filter] at h3
  simp only [Bool.and_self] at h3
  exact (h3.eq_of_length ((sortBy_perm key l).symm.filter _).length_eq).symm

theorem sorted_unique {α : Type} (key : α → Int) : ∀ (r s : List α), r.Pairwise (fun a b => key a ≤ key b) → s.Pairwise (fun a b => key a ≤ key b) → (∀ v, r.filter (keyIs key v) = s.filter (keyIs key v)) → r = s
  | [], [], _, _, _ => rfl
  | [], y :: s, _, _, h => by
    have := h (key y)
    simp [keyIs] at this
  | x :: r, [], _, _, h => by
    have := h (key x)
    simp [keyIs] at this
  | x :: r, y :: s, hr, hs, h => by
    have hx : x ∈ (y :: s).filter (keyIs key (key x)) := by rw [← h]; simp [keyIs]
    have hy : y ∈ (x :: r).filter (keyIs key (key y)) := by rw [h]; simp [keyIs]
    have h1 : key y ≤ key x := by
      rcases List.mem_cons.1 (List.mem_filter.1 hx).1 with e | e
      · rw [e]; exact Int.le_refl _
      · exact (List.pairwise_cons.1 hs).1 x e
    have h2 : key x ≤ key y := by
      rcases List.mem_cons.1 (List.mem_filter.1 hy).1 with e | e
      · rw [e]; exact Int.le_refl _
      · exact (List.pairwise_cons.1 hr).1 y e
    have he : key x = key y := by omega
    have h3 := h (key x)
    rw [List.filter_cons_of_pos (by simp [keyIs]), List.filter_cons_of_pos (by simp [keyIs, he])] at h3
    injection h3 with h4 _
    subst h4
    refine congrArg (x :: ·) (sorted_unique key r s (List.pairwise_cons.1 hr).2 (List.pairwise_cons.1 hs).2 (fun v => ?_))
    have h5 := h v
    by_cases hv : key x = v
    · rw [List.filter_cons_of_pos (by simp [keyIs, hv]), List.filter_cons_of_pos (by simp [keyIs, hv])] at h5
      exact List.tail_eq_of_cons_eq h5
    · rw [List.filter_cons_of_neg (by simp [keyIs, hv]), List.filter_cons_of_neg (by simp [keyIs, hv])] at h5
      exact h5

/-! ### Go's insertion sort is stable -/
def keyLt {α : Type} (key : α → Int) (x y : α) : Bool := decide (key x < key y)
theorem swo_key {α : Type} (key : α → Int) : SWO (keyLt key) := by
  constructor <;> (intros; simp_all [keyLt] <;> omega)
/-- What is sorted by its key, and keeps its equals in their order, is 'sortBy'. -/
theorem sortBy_of {α : Type} (key : α → Int) (l r : List α) (hs : r.Pairwise fun a b => key a ≤ key b) (hf : ∀ v, r.filter (keyIs key v) = l.filter (keyIs key v)) : r = sortBy key l :=
  sorted_unique key r _ hs (sortBy_sorted key l) fun v => (hf v).trans (sortBy_filter key l v).symm
section
variable {α : Type} [Inhabited α] (key : α → Int)

theorem swp_adj (d : Array α) (j : Nat) (h : j + 1 < d.size) : (swp d (j + 1) j).toList = d.toList.take j ++ d[j + 1]! :: d[j]! :: d.toList.drop (j + 2) := by
  unfold swp
  apply List.ext_getElem?
  intro k
  have hl : d.toList.length = d.size := by simp
  rw [Array.toList_setIfInBounds, Array.toList_setIfInBounds, List.getElem?_set, List.getElem?_set, List.length_set, List.getElem?_append, List.length_take, hl, Nat.min_eq_left (by omega)]
  by_cases h1 : k < j
  · rw [if_neg (by omega), if_neg (by omega), if_pos h1, List.getElem?_take, if_pos h1]
  · rw [if_neg h1]
    by_cases h2 : k = j
    · subst h2; simp; omega
    · by_cases h3 : k = j + 1
      · subst h3; rw [if_neg (by omega), if_pos rfl, if_pos (by omega), show j + 1 - j = 1 by omega]; rfl
      · rw [if_neg (by omega), if_neg (by omega), show k - j = (k - (j + 2)) + 2 by omega, List.getElem?_cons_succ, List.getElem?_cons_succ, List.getElem?_drop, show j + 2 + (k - (j + 2)) = k by omega]
theorem arr_adj (d : Array α) (j : Nat) (h : j + 1 < d.size) : d.toList = d.toList.take j ++ d[j]! :: d[j + 1]! :: d.toList.drop (j + 2) := by
  have hl : d.toList.length = d.size := by simp
  rw [getElem!_pos d j (by omega), getElem!_pos d (j + 1) h]
  conv => lhs; rw [← List.take_append_drop j d.toList, List.drop_eq_getElem_cons (by omega), List.drop_eq_getElem_cons (by omega)]
  simp
theorem swp_filter (d : Array α) (j : Nat) (h : j + 1 < d.size) (hlt : keyLt key d[j + 1]! d[j]! = true) (v : Int) : (swp d (j + 1) j).toList.filter (keyIs key v) = d.toList.filter (keyIs key v) := by
  rw [swp_adj d j h]
  conv => rhs; rw [arr_adj d j h]
  generalize d[j + 1]! = y at hlt ⊢
  generalize d[j]! = x at hlt ⊢
  simp only [keyLt, decide_eq_true_eq] at hlt
  rw [List.filter_append, List.filter_append]
  congr 1
  simp only [List.filter_cons, keyIs, decide_eq_true_eq]
  by_cases h1 : key y = v
  · rw [if_pos h1, if_neg (by omega), if_neg (by omega), if_pos h1]
  · rw [if_neg h1, if_neg h1]
theorem insInner_filter (a : Nat) (v : Int) : ∀ (j : Nat) (d : Array α), j < d.size → (insInner (keyLt key) a j d).toList.filter (keyIs key v) = d.toList.filter (keyIs key v) ∧ (insInner (keyLt key) a j d).size = d.size
  | 0, d, _ => ⟨rfl, rfl⟩
  | j + 1, d, h => by
    simp only [insInner]
    split
    · rename_i hc
      simp only [Bool.and_eq_true] at hc
      have hs := size_swp d (j + 1) j
      have ih := insInner_filter a v j (swp d (j + 1) j) (by omega)
      exact ⟨ih.1.trans (swp_filter key d j h hc.2 v), ih.2.trans hs⟩
    · exact ⟨rfl, rfl⟩
theorem insOuter_filter (a b : Nat) (v : Int) (i : Nat) (d : Array α) (h : b ≤ d.size) : (insOuter (keyLt key) a b i d).toList.filter (keyIs key v) = d.toList.filter (keyIs key v) ∧ (insOuter (keyLt key) a b i d).size = d.size := by
  rw [insOuter]
  split
  · rename_i hlt
    have h1 := insInner_filter key a v i d (by omega)
    have ih := insOuter_filter a b v (i + 1) (insInner (keyLt key) a i d) (by omega)
    exact ⟨ih.1.trans h1.1, ih.2.trans h1.2⟩
  · exact ⟨rfl, rfl⟩
termination_by b - i
theorem insertionSort_filter (a b : Nat) (v : Int) (d : Array α) (h : b ≤ d.size) : (insertionSort (keyLt key) d a b).toList.filter (keyIs key v) = d.toList.filter (keyIs key v) ∧ (insertionSort (keyLt key) d a b).size = d.size := insOuter_filter key a b v (a + 1) d h
theorem sorted_of_in (d : Array α) (h : SortedIn (keyLt key) 0 d.size d) : d.toList.Pairwise fun a b => key a ≤ key b := by
  rw [List.pairwise_iff_getElem]
  intro i j hi hj hij
  have hl : d.toList.length = d.size := by simp
  have := h i j (Nat.zero_le _) hij (by omega)
  rw [getElem!_pos d i (by omega), getElem!_pos d j (by omega)] at this
  simp only [keyLt, decide_eq_false_iff_not] at this
  simp only [Array.getElem_toList]
  omega
theorem insertion_is (d : Array α) : (insertionSort (keyLt key) d 0 d.size).toList = sortBy key d.toList := by
  have h1 := insertionSort_filter key 0 d.size
  have h2 := (insertionSort_holds (lt := keyLt key) (swo_key key) d 0 d.size (Nat.zero_le _) (Nat.le_refl _)).2
  refine sortBy_of key _ _ (sorted_of_in key _ ?_) (fun v => (h1 v d (Nat.le_refl _)).1)
  rw [(h1 0 d (Nat.le_refl _)).2]
  exact h2
end

end Go.Proofs.YtkpgaccgcdoijaaGreatDoor

import Derived.Test.YtkpgaccgcdoijaaGreatDoorZBld
import Derived.Test.YtkpgaccgcdoijaaGreatDoorZSrtP
import Derived.Test.YtkpgaccgcdoijaaGreatDoorZShelf2
namespace Go.Proofs.YtkpgaccgcdoijaaGreatDoor
open Go.RowKit Go.Sort

/-! ### rows, flat, and rows that the sorts have laid anew -/
theorem flatK_list {α : Type} [Inhabited α] (enc : α → List Value) (k : Nat) (hk : ∀ x, (enc x).length = k) (l : List α) : (flatK enc k l.toArray).toList = l.flatMap enc := by
  have hlen : (l.flatMap enc).length = l.length * k := by
    rw [List.length_flatMap]
    induction l with
    | nil => simp
    | cons a r ih => rw [List.map_cons, List.sum_cons, ih, hk, List.length_cons, Nat.add_mul]; omega
  apply List.ext_getElem?
  intro t
  have hs : (flatK enc k l.toArray).toList.length = l.length * k := by simp
  by_cases ht : t < l.length * k
  · have h0 : 0 < k := by
      rcases Nat.eq_zero_or_pos k with h | h
      · subst h; simp at ht
      · exact h
    have hi : t / k < l.length := Nat.div_lt_of_lt_mul (by rw [Nat.mul_comm]; exact ht)
    have hm : t % k < k := Nat.mod_lt _ h0
    have h1 := flatMap_at enc k hk l (t / k) hi (t % k) hm
    rw [Nat.div_add_mod' t k] at h1
    rw [h1]
    have h2 := get_flatK enc k l.toArray t (by simpa using ht)
    rw [getElem!_pos _ t (by simpa using ht), getElem!_pos _ (t / k) (by simpa using hi), getElem!_pos _ (t % k) (by rw [hk]; exact hm)] at h2
    rw [List.getElem?_eq_getElem (by rw [hs]; exact ht), List.getElem?_eq_getElem (by rw [hk]; exact hm), Array.getElem_toList, h2]
    simp
  · rw [List.getElem?_eq_none (by rw [hs]; omega), List.getElem?_eq_none (by rw [hlen]; omega)]

theorem putRow_map {α : Type} [Inhabited α] (enc : α → Value) (w : World) (blk off : Nat) (d : Array α) : putRow enc w blk off d = putRow id w blk off (d.map enc) := by
  unfold putRow
  refine mapBlock_congr _ _ _ _ fun c _ _ _ => ?_
  unfold putCells
  rw [Array.size_map]
  congr 1
  funext k x
  by_cases h : off ≤ k ∧ k < off + d.size
  · rw [if_pos h, if_pos h, getElem!_pos d _ (by omega), getElem!_pos (d.map enc) _ (by rw [Array.size_map]; omega)]
    simp
  · rw [if_neg h, if_neg h]

theorem own_holds {w : World} {B s n cap g : Nat} {e : TypeId} {xs : List Value} {F : Array Value} (h : w.ownsRow B e s (.slice (some ⟨g, 0, none⟩) n cap) n xs) (hF : F.toList = xs) : Holds id w g 0 F := by
  intro j hj
  have hx : xs[j]? = some F[j]! := by
    rw [← hF, getElem!_pos F j hj, Array.getElem?_toList, Array.getElem?_eq_getElem hj]
  have hl : j < n * s := by
    have := (List.getElem?_eq_some_iff.1 hx).1
    rw [h.1] at this; exact this
  rcases h.2 with ⟨h', _⟩ | ⟨g', cap', cur, h', hb, hh, _⟩
  · cases h'
  · injection h' with h1 _ _
    injection h1 with h1
    injection h1 with h1 _ _
    subst h1
    rw [Nat.zero_add]
    exact ⟨(h.cellAt j hl).trans hx, by simp [World.frozen?, hh]⟩

theorem put_heap (w : World) (m g : Nat) (F : Array Value) (os : Array Obj) {cur : Array Value} {e : TypeId} {fr : Nat × Nat} (h : w.heap[g]? = some (.cells cur e fr)) :
    (grow (putRow id (Sort.ahead w m) g 0 F) os).heap[g]? = some (.cells (putCells id 0 F cur) e fr) := by
  have hg := (Array.getElem?_eq_some_iff.1 h).1
  show ((w.heap.modify g (onCells (putCells id 0 F))) ++ os)[g]? = _
  rw [Array.getElem?_append_left (by simpa using hg), Array.getElem?_modify, if_pos rfl, h]
  rfl
theorem put_grown (w : World) (m g : Nat) (F : Array Value) (os : Array Obj) : w.grownBy (grow (putRow id (Sort.ahead w m) g 0 F) os) (some g) := by
  refine ⟨rfl, rfl, rfl, ?_, fun k hk hne => ?_⟩
  · show w.heap.size ≤ ((w.heap.modify g (onCells (putCells id 0 F))) ++ os).size
    simp
  · show ((w.heap.modify g (onCells (putCells id 0 F))) ++ os)[k]? = _
    rw [Array.getElem?_append_left (by simpa using hk), Array.getElem?_modify, if_neg (fun e => hne (by rw [e]))]
theorem putCells_take (F : Array Value) (cur : Array Value) (n : Nat) (hF : F.size = n) (hc : n ≤ cur.size) : (putCells id 0 F cur).toList.take n = F.toList ∧ (putCells id 0 F cur).size = cur.size := by
  refine ⟨?_, by simp [putCells]⟩
  apply List.ext_getElem?
  intro k
  rw [List.getElem?_take]
  split
  · rename_i hk
    rw [Array.getElem?_toList, Array.getElem?_toList]
    unfold putCells
    rw [Array.getElem?_mapIdx, Array.getElem?_eq_getElem (by omega), Option.map_some, if_pos (by omega), Array.getElem?_eq_getElem (by omega), Nat.sub_zero, getElem!_pos F k (by omega)]
    rfl
  · rw [List.getElem?_eq_none (by simp; omega)]
theorem own_put {w : World} {B s n cap g : Nat} {e : TypeId} {xs : List Value} (h : w.ownsRow B e s (.slice (some ⟨g, 0, none⟩) n cap) n xs) (F : Array Value) (hF : F.size = n * s) (m : Nat) (os : Array Obj) :
    (grow (putRow id (Sort.ahead w m) g 0 F) os).ownsRow B e s (.slice (some ⟨g, 0, none⟩) n cap) n F.toList := by
  refine ⟨by simpa using hF, ?_⟩
  rcases h.2 with ⟨h', _⟩ | ⟨g', cap', cur, h', hb, hh, h1, h2, h3, h4⟩
  · cases h'
  · injection h' with h5 _ h7
    injection h5 with h5
    injection h5 with h5 _ _
    subst h5; subst h7
    have hle : n * s ≤ cur.size := by rw [h3]; exact Nat.mul_le_mul_right _ h1
    have ht := putCells_take F cur (n * s) hF hle
    exact .inr ⟨g, cap, _, rfl, hb, put_heap w m g F os hh, h1, h2, ht.2.trans h3, ht.1⟩

/-! ### the insertion sorts at this program -/
theorem ltOf_key {α : Type} (key : α → Int) : ltOf (fun a b => Lib.compareInt (key a) (key b)) = keyLt key := by
  funext a b
  unfold ltOf keyLt Lib.compareInt
  show decide ((if key a < key b then (-1 : Int) else if key a > key b then 1 else 0) < 0) = decide (key a < key b)
  by_cases h : key a < key b
  · rw [if_pos h]; simp [h]
  · rw [if_neg h]
    by_cases h2 : key a > key b
    · rw [if_pos h2]; simp [h]
    · rw [if_neg h2]; simp [h]
theorem field_one : ∀ x : FieldD, ∀ v ∈ fieldCells x, v.oneCell' = true := by
  intro x v hv
  simp only [fieldCells, List.mem_cons, List.mem_nil_iff, or_false] at hv
  rcases hv with rfl | rfl | rfl | rfl | rfl <;> rfl
theorem named_one : ∀ x : NamedD, ∀ v ∈ namedCells x, v.oneCell' = true := by
  intro x v hv
  simp only [namedCells, List.mem_cons, List.mem_nil_iff, or_false] at hv
  rcases hv with rfl | rfl <;> rfl
theorem ins_field (blk cap a b : Nat) (d : Array FieldD) (w : World) (hH : HoldsK fieldCells 5 w blk 0 d) (hblk : blk < w.heap.size) (hab : a ≤ b) (hb : b ≤ d.size) (hsz : d.size < 4611686018427387904) :
    Calls Tryz.prog 82 #[.slice (some ⟨blk, 0, none⟩) d.size cap, .int .i64 a, .int .i64 b, .func (.func 28) #[] #[]] w fun e w' =>
      e = .returned (.tuple #[]) ∧ ∃ n os, w' = sortWorldK fieldCells 5 w blk 0 n (insertionSort (keyLt FieldD.tag) d a b) os := by
  have h := AnyQ.insertionSortCmpFunc Tryz.laysField 5 Tryz.isAgg44 Tryz.sizeOf44 fieldCells (fun _ => rfl) field_one (fun f g => Lib.compareInt f.tag g.tag) 28 #[] blk 0 cap a b d w
    (enters_of Tryz.func28 (by kernel_rfl) rfl) (cmp1_lays blk 0 d.size w) hH hblk hab hb hsz
  rw [ltOf_key FieldD.tag] at h
  exact h
theorem ins_named (blk cap a b : Nat) (d : Array NamedD) (w : World) (hH : HoldsK namedCells 2 w blk 0 d) (hblk : blk < w.heap.size) (hab : a ≤ b) (hb : b ≤ d.size) (hsz : d.size < 4611686018427387904) :
    Calls Tryz.prog 95 #[.slice (some ⟨blk, 0, none⟩) d.size cap, .int .i64 a, .int .i64 b, .func (.func 35) #[] #[]] w fun e w' =>
      e = .returned (.tuple #[]) ∧ ∃ n os, w' = sortWorldK namedCells 2 w blk 0 n (insertionSort (keyLt NamedD.n) d a b) os := by
  have h := AnyQ.insertionSortCmpFunc Tryz.laysNamed 2 Tryz.isAgg49 Tryz.sizeOf49 namedCells (fun _ => rfl) named_one (fun f g => Lib.compareInt f.n g.n) 35 #[] blk 0 cap a b d w
    (enters_of Tryz.func35 (by kernel_rfl) rfl) (cmp2_lays blk 0 d.size w) hH hblk hab hb hsz
  rw [ltOf_key NamedD.n] at h
  exact h

end Go.Proofs.YtkpgaccgcdoijaaGreatDoor

import Derived.Test.YtkpgaccgcdoijaaGreatDoorZLwO
import Derived.Deep.Slices
import Derived.Deep.Strs
import Derived.Lib.SmallJoins
import Derived.SizedLaws
import Derived.OpenShut
namespace Go.Proofs.YtkpgaccgcdoijaaGreatDoor
open Go.RowKit Go.ChangeShapes Go.WideShapes Go.Deep

/-! ### opening a schema that came in -/
section
variable {H : Type} {enc : TypeId × Value → H} {w : World} {spare : Nat → Bool} {held : Bool}

theorem cells_get {base n : Nat} {a : Addr} {cs : List Value} (h : w.cells? base a n = some cs) : cs.length = n ∧ ∀ j, j < n → w.cell? (a.add j) = cs[j]? := by
  unfold World.cells? at h
  split at h
  · exact ⟨by simpa using mapM_some_length h, fun j hj => mapM_some_get h j j (by simp [hj])⟩
  · cases h
theorem flatMap_at' {α : Type} (f : α → List Value) (s : Nat) : ∀ (l : List α) (_ : ∀ x ∈ l, (f x).length = s) (i : Nat) (h : i < l.length) (j : Nat), j < s → (l.flatMap f)[i * s + j]? = (f l[i])[j]?
  | x :: r, hs, 0, _, j, hj => by
    rw [List.flatMap_cons, List.getElem?_append_left (by rw [hs x (by simp)]; omega)]; simp
  | x :: r, hs, i + 1, h, j, hj => by
    have ih := flatMap_at' f s r (fun y hy => hs y (by simp [hy])) i (by simpa using h) j hj
    rw [List.flatMap_cons, List.getElem?_append_right (by rw [hs x (by simp), Nat.add_mul]; omega), hs x (by simp), show (i + 1) * s + j - s = i * s + j by rw [Nat.add_mul]; omega, ih]
    rfl
theorem flatMap_len' {α : Type} (f : α → List Value) (s : Nat) : ∀ (l : List α) (_ : ∀ x ∈ l, (f x).length = s), (l.flatMap f).length = l.length * s
  | [], _ => by simp
  | x :: r, hs => by
    rw [List.flatMap_cons, List.length_append, hs x (by simp), flatMap_len' f s r (fun y hy => hs y (by simp [hy])), List.length_cons, Nat.add_mul]; omega
theorem flatMap_one : ∀ (R : List Int), R.flatMap (fun n => [Value.int .i64 n]) = intsCells R
  | [] => rfl
  | a :: r => by rw [List.flatMap_cons, flatMap_one r]; rfl
theorem weights_all {P : Program} {e : TypeId} {q : Nat} : ∀ {l : List (DataW H)} {d : DataW H}, d ∈ l → q ∈ d.weights P e → q ∈ DataW.weightsAll P e l
  | a :: r, d, hd, hq => by
    unfold DataW.weightsAll
    rcases List.mem_cons.1 hd with rfl | hd
    · exact List.mem_append_left _ hq
    · exact List.mem_append_right _ (weights_all hd hq)

set_option maxRecDepth 100000 in
theorem open_rd {t e : TypeId} {fuel size : Nat} {cs : List Value} {d : DataW H} {ps : List MemPlace} (ht : Tryz.prog.underlying t = some (.slice e)) (hc : Tryz.prog.cellsOf e = size) (hs : 0 < size) (h : DataW.trod enc Tryz.prog w 0 spare held fuel t cs = some (d, ps)) :
    ∃ (v : Value) (n : Nat) (C : Nat → List Value), cs = [v] ∧ Rd w (fun b => b < w.heap.size) size v n ((List.range n).flatMap C) ∧ ∀ i, i < n → ∃ k D qs, DataW.trod enc Tryz.prog w 0 spare held k e (C i) = some (D, qs) ∧ ∀ q ∈ D.weights Tryz.prog e, q ∈ d.weights Tryz.prog t := by
  rcases open_slice ht h with ⟨rfl, hx⟩ | ⟨a, len, cap, m, k, D, Pl, rfl, hb, hl, hm, hmm, hx, hel⟩
  · exact ⟨.slice none 0 0, 0, fun _ => [], rfl, ⟨by simp, none, 0, rfl, Nat.le_refl _, Nat.zero_le _, fun h => absurd rfl h⟩, fun i hi => absurd hi (Nat.not_lt_zero i)⟩
  · have hlm : len ≤ m := by rw [hmm]; split <;> omega
    obtain ⟨C, hC⟩ := choose_lt (n := len) (p := fun i cs' => w.cells? 0 (a.add (i * Tryz.prog.cellsOf e)) (Tryz.prog.cellsOf e) = some cs' ∧ DataW.trod enc Tryz.prog w 0 spare held k e cs' = some (D i, Pl i)) (fun i hi => hel i (by omega))
    rw [hc] at hC
    simp only [Prod.mk.injEq] at hx
    obtain ⟨rfl, _⟩ := hx
    have hlen : ∀ i ∈ List.range len, (C i).length = size := fun i hi => (cells_get (hC i (List.mem_range.1 hi)).1).1
    have hcell : ∀ i j, i < len → j < size → w.cell? ((a.add (i * size)).add j) = (C i)[j]? := fun i j hi hj => (cells_get (hC i hi).1).2 j hj
    refine ⟨.slice (some a) len cap, len, C, rfl, ⟨by rw [flatMap_len' C size _ hlen, List.length_range], some a, cap, rfl, hl, hm, fun hn => ?_⟩, fun i hi => ⟨k, D i, Pl i, (hC i hi).2, fun q hq => ?_⟩⟩
    · have h00 := hcell 0 0 (by omega) hs
      have hl0 := hlen 0 (List.mem_range.2 (by omega))
      rw [List.getElem?_eq_getElem (by omega)] at h00
      rw [add_add] at h00
      have hsp := World.cell?_spot h00
      have hblk := World.block_lt_of_cell? w _ h00
      obtain ⟨b, o, s⟩ := a
      obtain rfl : s = none := by simpa [Addr.add] using hsp
      refine ⟨b, o, rfl, by simpa [Addr.add] using hblk, fun j hj => ?_⟩
      have hi : j / size < len := (Nat.div_lt_iff_lt_mul hs).2 hj
      have hr : j % size < size := Nat.mod_lt _ hs
      have hj' : j / size * size + j % size = j := by rw [Nat.mul_comm]; exact Nat.div_add_mod j size
      have h1 := flatMap_at' C size (List.range len) hlen (j / size) (by simpa using hi) (j % size) hr
      have h2 := hcell (j / size) (j % size) hi hr
      rw [add_add, hj'] at h2
      rw [hj', List.getElem_range] at h1
      rw [h1, ← h2]
      congr 1
      unfold Addr.add
      by_cases h0 : j = 0 <;> simp [h0]
    · unfold DataW.weights
      rw [ht]
      exact List.mem_cons_of_mem _ (List.mem_append_left _ (weights_all (List.mem_map.2 ⟨i, List.mem_range.2 hi, rfl⟩) hq))

set_option maxRecDepth 100000 in
/-- A row whose elements are read each by itself. -/
theorem open_list {α : Type} [Inhabited α] {t e : TypeId} {fuel size : Nat} {cs : List Value} {d : DataW H} {ps : List MemPlace} (cell : α → List Value) (good : α → Prop) (ht : Tryz.prog.underlying t = some (.slice e)) (hc : Tryz.prog.cellsOf e = size) (hs : 0 < size)
    (hel : ∀ k D qs cs', DataW.trod enc Tryz.prog w 0 spare held k e cs' = some (D, qs) → ∃ a, cs' = cell a ∧ good a) (h : DataW.trod enc Tryz.prog w 0 spare held fuel t cs = some (d, ps)) :
    ∃ (v : Value) (l : List α), cs = [v] ∧ Rd w (fun b => b < w.heap.size) size v l.length (l.flatMap cell) ∧ ∀ a ∈ l, good a := by
  obtain ⟨v, n, C, rfl, hr, hC⟩ := open_rd ht hc hs h
  obtain ⟨F, hF⟩ := choose_lt (n := n) (p := fun i a => C i = cell a ∧ good a) (fun i hi => by
    obtain ⟨k, D, qs, h1, _⟩ := hC i hi
    exact hel k D qs _ h1)
  refine ⟨v, (List.range n).map F, rfl, ?_, fun a ha => ?_⟩
  · rw [List.length_map, List.length_range, List.flatMap_map]
    have : (List.range n).flatMap (fun i => cell (F i)) = (List.range n).flatMap C := flatMap_congr_range fun i hi => ((hF i hi).1).symm
    rw [this]; exact hr
  · obtain ⟨i, hi, rfl⟩ := List.mem_map.1 ha
    exact (hF i (List.mem_range.1 hi)).2

theorem cellsStr : Tryz.prog.cellsOf 9 = 1 := by kernel_rfl
theorem cellsInt : Tryz.prog.cellsOf 3 = 1 := by kernel_rfl
theorem cellsTyp : Tryz.prog.cellsOf 42 = 2 := by kernel_rfl
theorem cellsField : Tryz.prog.cellsOf 44 = 5 := by kernel_rfl
theorem cellsNamed : Tryz.prog.cellsOf 49 = 2 := by kernel_rfl
theorem cellsMethod : Tryz.prog.cellsOf 54 = 3 := by kernel_rfl
theorem cellsMessage : Tryz.prog.cellsOf 40 = 3 := by kernel_rfl
theorem cellsEnum : Tryz.prog.cellsOf 47 = 2 := by kernel_rfl
theorem cellsSchema : Tryz.prog.cellsOf 26 = 4 := by kernel_rfl
theorem cellsFs : Tryz.prog.cellsOf 37 = 1 := by kernel_rfl
theorem cellsIs : Tryz.prog.cellsOf 38 = 1 := by kernel_rfl
theorem cellsNs : Tryz.prog.cellsOf 45 = 1 := by kernel_rfl
theorem cellsMs : Tryz.prog.cellsOf 22 = 1 := by kernel_rfl
theorem cellsEs : Tryz.prog.cellsOf 23 = 1 := by kernel_rfl
theorem cellsCs : Tryz.prog.cellsOf 24 = 1 := by kernel_rfl

set_option maxRecDepth 100000 in
theorem open_field {k : Nat} {D : DataW H} {qs : List MemPlace} {cs : List Value} (h : DataW.trod enc Tryz.prog w 0 spare held k 44 cs = some (D, qs)) : ∃ f : FieldD, cs = fieldCells f ∧ f.Fit := by
  obtain ⟨y0, y1, y2, y3, n, _, hl, h0, h1, h2, h3⟩ := Go.Joins.trod_struct4 Tryz.underlying44 h
  rw [cellsField] at hl
  match cs, hl with
  | [c0, c1, c2, c3, c4], _ =>
    simp only [cellsStr, cellsInt, cellsTyp, List.drop_zero, List.drop_succ_cons, List.take_succ_cons, List.take_zero] at h0 h1 h2 h3
    obtain ⟨s, e0, _, b0⟩ := DataW.trod_string Tryz.underlying9 h0
    obtain ⟨i1, e1, _, b1⟩ := DataW.trod_int Tryz.underlying3 h1
    obtain ⟨i2, e2, _, b2⟩ := DataW.trod_int Tryz.underlying3 h2
    obtain ⟨z0, z1, n', _, _, g0, g1⟩ := trod_struct2 Tryz.underlying42 h3
    simp only [cellsStr, cellsInt, List.drop_zero, List.drop_succ_cons, List.take_succ_cons, List.take_zero] at g0 g1
    obtain ⟨i3, e3, _, b3⟩ := DataW.trod_int Tryz.underlying3 g0
    obtain ⟨s4, e4, _, b4⟩ := DataW.trod_string Tryz.underlying9 g1
    simp only [List.cons.injEq, and_true] at e0 e1 e2 e3 e4
    subst e0; subst e1; subst e2; subst e3; subst e4
    exact ⟨⟨s, i1, i2, i3, s4⟩, rfl, ⟨b0, b4, bounds_i64 b1, bounds_i64 b2, bounds_i64 b3⟩⟩
set_option maxRecDepth 100000 in
theorem open_named {k : Nat} {D : DataW H} {qs : List MemPlace} {cs : List Value} (h : DataW.trod enc Tryz.prog w 0 spare held k 49 cs = some (D, qs)) : ∃ f : NamedD, cs = namedCells f ∧ (f.name.size ≤ maxLen ∧ i64B f.n) := by
  obtain ⟨y0, y1, n, _, hl, h0, h1⟩ := trod_struct2 Tryz.underlying49 h
  rw [cellsNamed] at hl
  match cs, hl with
  | [c0, c1], _ =>
    simp only [cellsStr, cellsInt, List.drop_zero, List.drop_succ_cons, List.take_succ_cons, List.take_zero] at h0 h1
    obtain ⟨s, e0, _, b0⟩ := DataW.trod_string Tryz.underlying9 h0
    obtain ⟨i1, e1, _, b1⟩ := DataW.trod_int Tryz.underlying3 h1
    simp only [List.cons.injEq, and_true] at e0 e1
    subst e0; subst e1
    exact ⟨⟨s, i1⟩, rfl, b0, bounds_i64 b1⟩
set_option maxRecDepth 100000 in
theorem open_method {k : Nat} {D : DataW H} {qs : List MemPlace} {cs : List Value} (h : DataW.trod enc Tryz.prog w 0 spare held k 54 cs = some (D, qs)) : ∃ f : MethodD, cs = methodCells f ∧ f.Fit := by
  obtain ⟨y0, y1, y2, n, _, hl, h0, h1, h2⟩ := trod_struct3 Tryz.underlying54 h
  rw [cellsMethod] at hl
  match cs, hl with
  | [c0, c1, c2], _ =>
    simp only [cellsStr, List.drop_zero, List.drop_succ_cons, List.take_succ_cons, List.take_zero] at h0 h1 h2
    obtain ⟨s0, e0, _, b0⟩ := DataW.trod_string Tryz.underlying9 h0
    obtain ⟨s1, e1, _, b1⟩ := DataW.trod_string Tryz.underlying9 h1
    obtain ⟨s2, e2, _, b2⟩ := DataW.trod_string Tryz.underlying9 h2
    simp only [List.cons.injEq, and_true] at e0 e1 e2
    subst e0; subst e1; subst e2
    exact ⟨⟨s0, s1, s2⟩, rfl, ⟨b0, b1, b2⟩⟩
set_option maxRecDepth 100000 in
theorem open_int1 {k : Nat} {D : DataW H} {qs : List MemPlace} {cs : List Value} (h : DataW.trod enc Tryz.prog w 0 spare held k 3 cs = some (D, qs)) : ∃ f : Int, cs = [.int .i64 f] ∧ i64B f := by
  obtain ⟨i1, e1, _, b1⟩ := DataW.trod_int Tryz.underlying3 h
  exact ⟨i1, e1, bounds_i64 b1⟩

instance : Inhabited FieldD := ⟨⟨noText, 0, 0, 0, noText⟩⟩
instance : Inhabited NamedD := ⟨⟨noText, 0⟩⟩
instance : Inhabited MethodD := ⟨⟨noText, noText, noText⟩⟩
instance : Inhabited MessageD := ⟨⟨noText, [], []⟩⟩
instance : Inhabited EnumD := ⟨⟨noText, []⟩⟩

set_option maxRecDepth 100000 in
theorem open_message {k : Nat} {D : DataW H} {qs : List MemPlace} {cs : List Value} (h : DataW.trod enc Tryz.prog w 0 spare held k 40 cs = some (D, qs)) :
    ∃ (m : MessageD) (vf vr : Value), cs = [.string m.name, vf, vr] ∧ Rd w (fun b => b < w.heap.size) 5 vf m.fields.length (fieldsCells m.fields) ∧ Rd w (fun b => b < w.heap.size) 1 vr m.reserved.length (intsCells m.reserved) ∧ m.Fit ∧ m.name.size ∈ D.weights Tryz.prog 40 := by
  obtain ⟨y0, y1, y2, n, hD, hl, h0, h1, h2⟩ := trod_struct3 Tryz.underlying40 h
  rw [cellsMessage] at hl
  match cs, hl with
  | [c0, c1, c2], _ =>
    simp only [cellsStr, cellsFs, cellsIs, List.drop_zero, List.drop_succ_cons, List.take_succ_cons, List.take_zero] at h0 h1 h2
    obtain ⟨s0, e0, hy0, b0⟩ := DataW.trod_string Tryz.underlying9 h0
    obtain ⟨vf, F, e1, r1, g1⟩ := open_list fieldCells FieldD.Fit Tryz.underlying37 cellsField (by decide) (fun _ _ _ _ h => open_field h) h1
    obtain ⟨vr, R, e2, r2, g2⟩ := open_list (fun n => [Value.int .i64 n]) i64B Tryz.underlying38 cellsInt (by decide) (fun _ _ _ _ h => open_int1 h) h2
    simp only [List.cons.injEq, and_true] at e0 e1 e2
    subst e0; subst e1; subst e2
    have hR : R.flatMap (fun n => [Value.int .i64 n]) = intsCells R := flatMap_one R
    rw [hR] at r2
    refine ⟨⟨s0, F, R⟩, c1, c2, rfl, r1, r2, ⟨b0, g1, g2⟩, ?_⟩
    simp only [Prod.mk.injEq] at hD
    rw [hD.1, hy0]
    unfold DataW.weights
    rw [Tryz.underlying40]
    simp [DataW.weightsEach, DataW.weights]
set_option maxRecDepth 100000 in
theorem open_enum {k : Nat} {D : DataW H} {qs : List MemPlace} {cs : List Value} (h : DataW.trod enc Tryz.prog w 0 spare held k 47 cs = some (D, qs)) :
    ∃ (m : EnumD) (vf : Value), cs = [.string m.name, vf] ∧ Rd w (fun b => b < w.heap.size) 2 vf m.values.length (namedsCells m.values) ∧ m.Fit := by
  obtain ⟨y0, y1, n, hD, hl, h0, h1⟩ := trod_struct2 Tryz.underlying47 h
  rw [cellsEnum] at hl
  match cs, hl with
  | [c0, c1], _ =>
    simp only [cellsStr, cellsNs, List.drop_zero, List.drop_succ_cons, List.take_succ_cons, List.take_zero] at h0 h1
    obtain ⟨s0, e0, hy0, b0⟩ := DataW.trod_string Tryz.underlying9 h0
    obtain ⟨vf, F, e1, r1, g1⟩ := open_list namedCells (fun f => f.name.size ≤ maxLen ∧ i64B f.n) Tryz.underlying45 cellsNamed (by decide) (fun _ _ _ _ h => open_named h) h1
    simp only [List.cons.injEq, and_true] at e0 e1
    subst e0; subst e1
    exact ⟨⟨s0, F⟩, c1, rfl, r1, ⟨b0, g1⟩⟩

theorem MsgRd.of_each {S : Nat → Prop} {M : Nat → MessageD} {VF VR : Nat → Value} {C : Nat → List Value} : ∀ {l : List Nat}, (∀ i ∈ l, C i = [.string (M i).name, VF i, VR i] ∧ Rd w S 5 (VF i) (M i).fields.length (fieldsCells (M i).fields) ∧ Rd w S 1 (VR i) (M i).reserved.length (intsCells (M i).reserved)) → MsgRd w S (l.map M) (l.flatMap C)
  | [], _ => rfl
  | i :: r, h => by
    obtain ⟨h1, h2, h3⟩ := h i (by simp)
    exact ⟨VF i, VR i, r.flatMap C, by rw [List.flatMap_cons, h1]; rfl, h2, h3, MsgRd.of_each (fun j hj => h j (by simp [hj]))⟩
theorem EnumRd.of_each {S : Nat → Prop} {M : Nat → EnumD} {VF : Nat → Value} {C : Nat → List Value} : ∀ {l : List Nat}, (∀ i ∈ l, C i = [.string (M i).name, VF i] ∧ Rd w S 2 (VF i) (M i).values.length (namedsCells (M i).values)) → EnumRd w S (l.map M) (l.flatMap C)
  | [], _ => rfl
  | i :: r, h => by
    obtain ⟨h1, h2⟩ := h i (by simp)
    exact ⟨VF i, r.flatMap C, by rw [List.flatMap_cons, h1]; rfl, h2, EnumRd.of_each (fun j hj => h j (by simp [hj]))⟩

set_option maxRecDepth 100000 in
theorem open_schema {r : Reach} {base fuel : Nat} {v : Value} {d : DataW H} {ps : List MemPlace} (hv : Value.okWide Tryz.prog w r base 26 v) (h : DataW.trod enc Tryz.prog w 0 spare held fuel 26 v.cells.toList = some (d, ps))
    (hw : ∀ q ∈ d.weights Tryz.prog 26, q ≤ reachBytes) :
    ∃ (x : SchemaD) (vm ve vc : Value), v = .agg #[.string x.name, vm, ve, vc] ∧ SchemaRd w (fun b => b < w.heap.size) x vm ve vc ∧ x.Reach ∧ x.Fit := by
  obtain ⟨cs, rfl, hsz⟩ := okWide_struct Tryz.underlying26 hv
  obtain ⟨y0, y1, y2, y3, n, hD, hl, h0, h1, h2, h3⟩ := Go.Joins.trod_struct4 Tryz.underlying26 h
  rw [cellsSchema] at hsz
  obtain ⟨c0, c1, c2, c3, rfl⟩ := Go.Joins.array4 hsz
  simp only [Value.cells, cellsStr, cellsMs, cellsEs, cellsCs, List.drop_zero, List.drop_succ_cons, List.take_succ_cons, List.take_zero] at h0 h1 h2 h3
  obtain ⟨s0, e0, hy0, b0⟩ := DataW.trod_string Tryz.underlying9 h0
  obtain ⟨vm, nm, C1, e1, r1, g1⟩ := open_rd Tryz.underlying22 cellsMessage (by decide) h1
  obtain ⟨ve, ne, C2, e2, r2, g2⟩ := open_rd Tryz.underlying23 cellsEnum (by decide) h2
  obtain ⟨vc, cl, e3, r3, g3⟩ := open_list methodCells MethodD.Fit Tryz.underlying24 cellsMethod (by decide) (fun _ _ _ _ h => open_method h) h3
  simp only [List.cons.injEq, and_true] at e0 e1 e2 e3
  subst e0; subst e1; subst e2; subst e3
  simp only [Prod.mk.injEq] at hD
  have hwd : d.weights Tryz.prog 26 = s0.data.toList.length :: (y1.1.weights Tryz.prog 22 ++ (y2.1.weights Tryz.prog 23 ++ (y3.1.weights Tryz.prog 24 ++ []))) := by
    rw [hD.1, hy0]
    conv => lhs; unfold DataW.weights
    rw [Tryz.underlying26]
    simp [DataW.weightsEach, DataW.weights]
  obtain ⟨M, hM⟩ := choose_lt (n := nm) (p := fun i (a : MessageD × Value × Value) => C1 i = [.string a.1.name, a.2.1, a.2.2] ∧ Rd w (fun b => b < w.heap.size) 5 a.2.1 a.1.fields.length (fieldsCells a.1.fields) ∧ Rd w (fun b => b < w.heap.size) 1 a.2.2 a.1.reserved.length (intsCells a.1.reserved) ∧ a.1.Fit ∧ a.1.name.size ≤ 140737488355328) (fun i hi => by
    obtain ⟨k, D, qs, h4, h5⟩ := g1 i hi
    obtain ⟨m, vf, vr, a1, a2, a3, a4, a5⟩ := open_message h4
    have := hw m.name.size (by rw [hwd]; exact List.mem_cons_of_mem _ (List.mem_append_left _ (h5 _ a5)))
    exact ⟨(m, vf, vr), a1, a2, a3, a4, Nat.le_trans this (by decide)⟩)
  obtain ⟨E, hE⟩ := choose_lt (n := ne) (p := fun i (a : EnumD × Value) => C2 i = [.string a.1.name, a.2] ∧ Rd w (fun b => b < w.heap.size) 2 a.2 a.1.values.length (namedsCells a.1.values) ∧ a.1.Fit) (fun i hi => by
    obtain ⟨k, D, qs, h4, _⟩ := g2 i hi
    obtain ⟨m, vf, a1, a2, a3⟩ := open_enum h4
    exact ⟨(m, vf), a1, a2, a3⟩)
  have hn := hw s0.data.toList.length (by rw [hwd]; exact List.mem_cons_self)
  refine ⟨⟨s0, (List.range nm).map (fun i => (M i).1), (List.range ne).map (fun i => (E i).1), cl⟩, c1, c2, c3, rfl, ⟨(List.range nm).flatMap C1, (List.range ne).flatMap C2, ?_, ?_, r3, ?_, ?_⟩, ⟨?_, ?_⟩, ⟨b0, ?_, ?_, g3⟩⟩
  · simpa using r1
  · simpa using r2
  · exact MsgRd.of_each (VF := fun i => (M i).2.1) (VR := fun i => (M i).2.2) fun i hi => ⟨(hM i (List.mem_range.1 hi)).1, (hM i (List.mem_range.1 hi)).2.1, (hM i (List.mem_range.1 hi)).2.2.1⟩
  · exact EnumRd.of_each (VF := fun i => (E i).2) fun i hi => ⟨(hE i (List.mem_range.1 hi)).1, (hE i (List.mem_range.1 hi)).2.1⟩
  · have : s0.size = s0.data.toList.length := by simp
    show s0.size ≤ _
    rw [this]; exact Nat.le_trans hn (by decide)
  · intro m hm
    obtain ⟨i, hi, rfl⟩ := List.mem_map.1 hm
    exact (hM i (List.mem_range.1 hi)).2.2.2.2
  · intro m hm
    obtain ⟨i, hi, rfl⟩ := List.mem_map.1 hm
    exact (hM i (List.mem_range.1 hi)).2.2.2.1
  · intro m hm
    obtain ⟨i, hi, rfl⟩ := List.mem_map.1 hm
    exact (hE i (List.mem_range.1 hi)).2.2
end

end Go.Proofs.YtkpgaccgcdoijaaGreatDoor

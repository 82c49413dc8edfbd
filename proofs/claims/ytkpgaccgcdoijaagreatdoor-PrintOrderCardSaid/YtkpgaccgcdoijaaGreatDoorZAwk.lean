import Derived.Test.YtkpgaccgcdoijaaGreatDoorZPrn
namespace Go.Proofs.YtkpgaccgcdoijaaGreatDoor
open Go.RowKit

/-! ### print.Same -/
def sameP (x y : SchemaD) : Bool := printP x == printP y
/-- What a schema must be for Print to be walked. -/
structure SchemaD.Prints (x : SchemaD) : Prop where
  modest : x.Modest
  fit : x.Fit
  len : (printP x).length ≤ 140737488355328

theorem print_at {x : SchemaD} {vm ve vc : Value} {w W : World} (h : SchemaRd w (fun k => k < w.heap.size) x vm ve vc) (hx : x.Prints) (hT : Tabs w) (hb : Below w.heap.size w W) :
    Calls Tryz.prog 15 #[.agg #[.string x.name, vm, ve, vc]] W fun e w' => e = .returned (.string ⟨(printP x).toArray⟩) ∧ Below W.heap.size W w' :=
  print_calls x vm ve vc W (h.kept hb.block (fun _ hj => Nat.lt_of_lt_of_le hj hb.size)) hx.modest hx.fit (hT.below hb) hx.len

/-- While two schemas are held against one another. -/
structure SamS (w : World) (cx cy : Array Value) (W : World) : Prop where
  below : Below w.heap.size w W
  x : W.heap[w.heap.size]? = some (.cells cx 26 (0, 0))
  y : W.heap[w.heap.size + 1]? = some (.cells cy 26 (0, 0))
  size : w.heap.size + 2 ≤ W.heap.size
theorem SamS.under {w : World} {cx cy : Array Value} {W W' : World} (h : SamS w cx cy W) (hb : Below W.heap.size W W') : SamS w cx cy W' := by
  have hs := h.size
  exact ⟨h.below.trans (hb.mono (by omega)), (hb.block _ (by omega)).trans h.x, (hb.block _ (by omega)).trans h.y, Nat.le_trans hs hb.size⟩
def Cells8 (b : Nat) (a0 a1 a2 a3 b0 b1 b2 b3 : Value) (W : World) : Prop :=
  W.cell? ⟨b, 0, none⟩ = some a0 ∧ W.cell? ⟨b, 1, none⟩ = some a1 ∧ W.cell? ⟨b, 2, none⟩ = some a2 ∧ W.cell? ⟨b, 3, none⟩ = some a3 ∧ W.cell? ⟨b + 1, 0, none⟩ = some b0 ∧ W.cell? ⟨b + 1, 1, none⟩ = some b1 ∧ W.cell? ⟨b + 1, 2, none⟩ = some b2 ∧ W.cell? ⟨b + 1, 3, none⟩ = some b3
theorem cells8_of {w : World} {a0 a1 a2 a3 b0 b1 b2 b3 : Value} {W : World} (h : SamS w #[a0, a1, a2, a3] #[b0, b1, b2, b3] W) : Cells8 w.heap.size a0 a1 a2 a3 b0 b1 b2 b3 W :=
  ⟨blk_cell h.x 0, blk_cell h.x 1, blk_cell h.x 2, blk_cell h.x 3, blk_cell h.y 0, blk_cell h.y 1, blk_cell h.y 2, blk_cell h.y 3⟩
theorem print_sam {x : SchemaD} {vm ve vc : Value} {w W : World} {a0 a1 a2 a3 b0 b1 b2 b3 : Value} (h : SchemaRd w (fun k => k < w.heap.size) x vm ve vc) (hx : x.Prints) (hT : Tabs w) (hs : SamS w #[a0, a1, a2, a3] #[b0, b1, b2, b3] W) :
    Calls Tryz.prog 15 #[.agg #[.string x.name, vm, ve, vc]] W fun e w' => e = .returned (.string ⟨(printP x).toArray⟩) ∧ Cells8 w.heap.size a0 a1 a2 a3 b0 b1 b2 b3 w' ∧ SamS w #[a0, a1, a2, a3] #[b0, b1, b2, b3] w' :=
  (print_at h hx hT hs.below).mono fun _ _ ⟨h1, h2⟩ => ⟨h1, cells8_of (hs.under h2), hs.under h2⟩

set_option maxHeartbeats 4000000 in
set_option maxRecDepth 100000 in
theorem same_calls (x y : SchemaD) (vm ve vc um ue uc : Value) (w : World) (h : SchemaRd w (fun k => k < w.heap.size) x vm ve vc) (h2 : SchemaRd w (fun k => k < w.heap.size) y um ue uc) (hx : x.Prints) (hy : y.Prints) (hT : Tabs w) :
    Calls Tryz.prog 17 #[.agg #[.string x.name, vm, ve, vc], .agg #[.string y.name, um, ue, uc]] w fun e w' => e = .returned (.bool (sameP x y)) ∧ Below w.heap.size w w' := by
  obtain ⟨vmA, vmc, rfl⟩ := h.choose_spec.choose_spec.1.slice
  obtain ⟨veA, vec, rfl⟩ := h.choose_spec.choose_spec.2.1.slice
  obtain ⟨vcA, vcc, rfl⟩ := h.choose_spec.choose_spec.2.2.1.slice
  obtain ⟨umA, umc, rfl⟩ := h2.choose_spec.choose_spec.1.slice
  obtain ⟨ueA, uec, rfl⟩ := h2.choose_spec.choose_spec.2.1.slice
  obtain ⟨ucA, ucc, rfl⟩ := h2.choose_spec.choose_spec.2.2.1.slice
  replace h := Lib.hid h; replace h2 := Lib.hid h2; replace hx := Lib.hid hx; replace hy := Lib.hid hy; replace hT := Lib.hid hT
  go_enter Tryz.func17, Tryz.ntmps17
  go_wp2
  have hS0 : SamS w #[.string x.name, .slice vmA x.messages.length vmc, .slice veA x.enums.length vec, .slice vcA x.methods.length vcc] #[.string y.name, .slice umA y.messages.length umc, .slice ueA y.enums.length uec, .slice ucA y.methods.length ucc]
      ((w.alloc (.cells #[.string x.name, .slice vmA x.messages.length vmc, .slice veA x.enums.length vec, .slice vcA x.methods.length vcc] 26)).alloc (.cells #[.string y.name, .slice umA y.messages.length umc, .slice ueA y.enums.length uec, .slice ucA y.methods.length ucc] 26)).drew := by
    have hn := heap_alloc_new (w.alloc (.cells #[.string x.name, .slice vmA x.messages.length vmc, .slice veA x.enums.length vec, .slice vcA x.methods.length vcc] 26)) (.cells #[.string y.name, .slice umA y.messages.length umc, .slice ueA y.enums.length uec, .slice ucA y.methods.length ucc] 26)
    rw [sizeAlloc] at hn
    exact ⟨(((Below.refl _ w).alloc (Nat.le_refl _) _).alloc (by simp) _).drew, blk_alloc (heap_alloc_new w _) _, hn, by show w.heap.size + 2 ≤ ((w.alloc _).alloc _).heap.size; simp⟩
  have hC0 := cells8_of hS0
  go_region_held3 (fun w' => w'.cell? ⟨w.heap.size, 0, none⟩ = some (.string x.name) ∧ w'.cell? ⟨w.heap.size, 1, none⟩ = some (.slice vmA x.messages.length vmc) ∧ w'.cell? ⟨w.heap.size, 2, none⟩ = some (.slice veA x.enums.length vec) ∧ w'.cell? ⟨w.heap.size, 3, none⟩ = some (.slice vcA x.methods.length vcc) ∧
      w'.cell? ⟨w.heap.size + 1, 0, none⟩ = some (.string y.name) ∧ w'.cell? ⟨w.heap.size + 1, 1, none⟩ = some (.slice umA y.messages.length umc) ∧ w'.cell? ⟨w.heap.size + 1, 2, none⟩ = some (.slice ueA y.enums.length uec) ∧ w'.cell? ⟨w.heap.size + 1, 3, none⟩ = some (.slice ucA y.methods.length ucc))
    (first | assumption)
    (first | (go_at_call 15; ((with_reducible refine (print_sam h.out hx.out hT.out (by assumption)).mono ?_); rintro e w' ⟨rfl, hC, hF⟩)) | (go_at_call 15; ((with_reducible refine (print_sam h2.out hy.out hT.out (by assumption)).mono ?_); rintro e w' ⟨rfl, hC, hF⟩)))
  all_goals
    have hfin := Lib.hid (SamS.below (by assumption : SamS w _ _ _))
    go_wp2
    go_ret
    exact ⟨rfl, hfin.out⟩

end Go.Proofs.YtkpgaccgcdoijaaGreatDoor

namespace Go.Proofs.YtkpgaccgcdoijaaGreatDoor
open Go.RowKit

/-! ### what is parsed fits -/
theorem numFrom_le (s : ByteArray) : ∀ (k p n v : Nat), numFrom s k p n = some v → v + 1 ≤ (n + 1) * 10 ^ k
  | 0, p, n, v, h => by
    simp only [numFrom, Option.some.injEq] at h
    subst h; simp
  | k + 1, p, n, v, h => by
    simp only [numFrom] at h
    split at h
    · split at h
      · rename_i hd
        have hr := digit_range hd
        have ih := numFrom_le s k _ _ v h
        have h1 : 10 * n + ((Utf8.decode s p).1 - 48) + 1 ≤ (n + 1) * 10 := by omega
        have h2 := Nat.mul_le_mul_right (10 ^ k) h1
        rw [Nat.pow_succ, Nat.mul_comm (10 ^ k) 10, ← Nat.mul_assoc]
        omega
      · cases h
    · injection h with h
      subst h
      exact Nat.le_mul_of_pos_right _ (Nat.pow_pos (by decide))
theorem i64_small {n : Int} (h : 0 ≤ n) (h2 : n ≤ 10000000000) : i64B n := ⟨by omega, by omega⟩
theorem numP_le (s : ByteArray) : i64B (numN (numP s)) := by
  unfold numN
  cases h : numP s with
  | none => exact ⟨by simp, by simp⟩
  | some v =>
    unfold numP at h
    split at h
    · cases h
    · rename_i hs
      have h1 := numFrom_le s s.size 0 0 v h
      have h2 : 10 ^ s.size ≤ 10 ^ 10 := Nat.pow_le_pow_right (by decide) (by omega)
      have h3 : (10 : Nat) ^ 10 = 10000000000 := by decide
      exact i64_small (by simp) (by simp only [Option.getD_some]; omega)
theorem numberV_fit (s : St) : i64B (numberV s) := by
  unfold numberV numberO
  split
  · exact ⟨by simp [numN], by simp [numN]⟩
  · split
    · split
      · exact numP_le _
      · exact ⟨by simp [numN], by simp [numN]⟩
    · exact ⟨by simp [numN], by simp [numN]⟩
theorem kindFrom_fit (s : St) : ∀ (ts : List ByteArray) (i : Int), 0 ≤ i → i + ts.length ≤ 1000 → 0 ≤ (kindFrom ts i s).1 ∧ (kindFrom ts i s).1 ≤ 1000
  | [], i, h, h2 => ⟨by simp [kindFrom], by simp [kindFrom]⟩
  | t :: r, i, h, h2 => by
    simp only [List.length_cons] at h2
    simp only [kindFrom]
    split
    · exact ⟨h, by simp only; omega⟩
    · exact kindFrom_fit s r (i + 1) (by omega) (by omega)
theorem fieldV_fit {s : St} (h : s.Small) : (fieldV s).Fit := by
  have hs := fieldV_small h
  refine ⟨hs.1, hs.2, numberV_fit _, ?_, ?_⟩
  · show i64B (labelV s)
    unfold labelV
    split
    · exact ⟨by decide, by decide⟩
    · split
      · exact ⟨by decide, by decide⟩
      · exact ⟨by decide, by decide⟩
  · have := kindFrom_fit (labelS s) kindWords 1 (by decide) (by decide)
    exact i64_small this.1 (by show (kindFrom kindWords 1 (labelS s)).1 ≤ _; omega)
theorem commaFrom_fit : ∀ (k : Nat) (s : St) (rs : List Int), (∀ n ∈ rs, i64B n) → ∀ n ∈ (commaFrom k s rs).2, i64B n
  | 0, s, rs, h => h
  | k + 1, s, rs, h => by
    simp only [commaFrom]
    split
    · refine commaFrom_fit k _ _ (fun n hn => ?_)
      rcases List.mem_append.1 hn with hn | hn
      · exact h n hn
      · rw [List.mem_singleton.1 hn]; exact numberV_fit _
    · exact h
theorem messageFrom_fit : ∀ (k : Nat) (s : St) (fs : List FieldD) (rs : List Int), s.Small → (∀ f ∈ fs, f.Fit) → (∀ n ∈ rs, i64B n) → (∀ f ∈ (messageFrom k s fs rs).2.1, f.Fit) ∧ ∀ n ∈ (messageFrom k s fs rs).2.2, i64B n
  | 0, s, fs, rs, _, h, h2 => ⟨h, h2⟩
  | k + 1, s, fs, rs, hs, h, h2 => by
    simp only [messageFrom]
    split
    · exact ⟨h, h2⟩
    · split
      · exact ⟨h, h2⟩
      · split
        · refine messageFrom_fit k _ fs _ (((hs.takes _).number.comma _ _).needs _) h (commaFrom_fit _ _ _ (fun n hn => ?_))
          rcases List.mem_append.1 hn with hn | hn
          · exact h2 n hn
          · rw [List.mem_singleton.1 hn]; exact numberV_fit _
        · refine messageFrom_fit k _ _ rs hs.field (fun f hf => ?_) h2
          rcases List.mem_append.1 hf with hf | hf
          · exact h f hf
          · rw [List.mem_singleton.1 hf]; exact fieldV_fit hs
theorem messageV_fit {s : St} (h : s.Small) : (messageV s).Fit := by
  have := messageFrom_fit (s.m + 1) (needsS [w_lbrace] (nameS s)) [] [] (h.name.needs _) (by simp) (by simp)
  exact ⟨nameV_small h, this.1, this.2⟩
theorem enumFrom_fit : ∀ (k : Nat) (s : St) (vs : List NamedD), s.Small → (∀ v ∈ vs, v.name.size ≤ maxLen ∧ i64B v.n) → ∀ v ∈ (enumFrom k s vs).2, v.name.size ≤ maxLen ∧ i64B v.n
  | 0, s, vs, _, h => h
  | k + 1, s, vs, hs, h => by
    simp only [enumFrom]
    split
    · exact h
    · split
      · exact h
      · refine enumFrom_fit k _ _ hs.named (fun v hv => ?_)
        rcases List.mem_append.1 hv with hv | hv
        · exact h v hv
        · rw [List.mem_singleton.1 hv]; exact ⟨nameV_small hs, numberV_fit _⟩
theorem enumV_fit {s : St} (h : s.Small) : (enumV s).Fit := ⟨nameV_small h, enumFrom_fit _ _ [] (h.name.needs _) (by simp)⟩
theorem callV_fit {s : St} (h : s.Small) : (callV s).Fit := ⟨nameV_small h, nameV_small (h.name.needs _), nameV_small (((h.name.needs _).name).needs _)⟩
theorem schemaFrom_fit : ∀ (k : Nat) (s : St) (ms : List MessageD) (es : List EnumD) (cs : List MethodD), s.Small → (∀ m ∈ ms, m.Fit) → (∀ e ∈ es, e.Fit) → (∀ c ∈ cs, c.Fit) →
    (∀ m ∈ (schemaFrom k s ms es cs).2.1, m.Fit) ∧ (∀ e ∈ (schemaFrom k s ms es cs).2.2.1, e.Fit) ∧ ∀ c ∈ (schemaFrom k s ms es cs).2.2.2, c.Fit
  | 0, s, ms, es, cs, _, h1, h2, h3 => ⟨h1, h2, h3⟩
  | k + 1, s, ms, es, cs, hs, h1, h2, h3 => by
    simp only [schemaFrom]
    split
    · exact ⟨h1, h2, h3⟩
    · split
      · refine schemaFrom_fit k _ _ es cs (hs.takes _).message (fun m hm => ?_) h2 h3
        rcases List.mem_append.1 hm with hm | hm
        · exact h1 m hm
        · rw [List.mem_singleton.1 hm]; exact messageV_fit (hs.takes _)
      · split
        · refine schemaFrom_fit k _ ms _ cs (hs.takes _).enum h1 (fun m hm => ?_) h3
          rcases List.mem_append.1 hm with hm | hm
          · exact h2 m hm
          · rw [List.mem_singleton.1 hm]; exact enumV_fit (hs.takes _)
        · split
          · refine schemaFrom_fit k _ ms es _ (hs.takes _).call h1 h2 (fun m hm => ?_)
            rcases List.mem_append.1 hm with hm | hm
            · exact h3 m hm
            · rw [List.mem_singleton.1 hm]; exact callV_fit (hs.takes _)
          · exact schemaFrom_fit k _ ms es cs hs h1 h2 h3
theorem schemaV_fit {s : St} (h : s.Small) : (schemaV s).Fit := by
  have := schemaFrom_fit (s.m + 1) (schemaStart s) [] [] [] (((h.needs _).name).needs _) (by simp) (by simp) (by simp)
  exact ⟨nameV_small (h.needs _), this.1, this.2.1, this.2.2⟩
theorem resolve_fit {x : SchemaD} (h : x.Fit) : (resolveQ x).Fit := by
  refine ⟨h.name, fun m hm => ?_, h.enums, h.methods⟩
  obtain ⟨m0, h0, rfl⟩ := List.mem_map.1 hm
  have hf := h.messages m0 h0
  refine ⟨hf.name, fun f hf0 => ?_, hf.reserved⟩
  obtain ⟨f0, h1, rfl⟩ := List.mem_map.1 hf0
  have hg := hf.fields f0 h1
  unfold resolveF
  split
  · exact ⟨hg.name, hg.tname, hg.tag, hg.label, (⟨by decide, by decide⟩ : i64B 6)⟩
  · exact hg
theorem noSchema_fit : noSchema.Fit := ⟨Nat.zero_le _, by simp [noSchema], by simp [noSchema], by simp [noSchema]⟩
theorem parse_fit (s : ByteArray) (hs : s.size ≤ maxLen) : (parseQ s).1.Fit := by
  have hz := (tokensP_bounds s hs).2
  unfold parseQ
  split
  · exact noSchema_fit
  · split
    · exact resolve_fit (schemaV_fit hz)
    · split <;> exact noSchema_fit

/-! ### what may be is modest -/
theorem msgC_modest {x : SchemaD} {A : List ByteArray} {m : MessageD} (h : msgC x A m = 0) : m.fields.length ≤ 16 ∧ m.reserved.length ≤ 32 := by
  unfold msgC at h
  split at h
  · cases h
  · split at h
    · cases h
    · omega
theorem msgsP_modest {x : SchemaD} : ∀ (l : List MessageD) (A : List ByteArray), (msgsP x l A).1 = 0 → ∀ m ∈ l, m.fields.length ≤ 16 ∧ m.reserved.length ≤ 32
  | [], _, _, m, hm => by cases hm
  | a :: r, A, h, m, hm => by
    simp only [msgsP] at h
    split at h
    · rename_i h1; exact absurd h h1
    · rename_i h1
      rcases List.mem_cons.1 hm with rfl | hm
      · exact msgC_modest (by simpa using h1)
      · exact msgsP_modest r _ h m hm
theorem enumC_modest {A : List ByteArray} {m : EnumD} (h : enumC A m = 0) : m.values.length ≤ 16 := by
  unfold enumC at h
  split at h
  · cases h
  · split at h
    · cases h
    · omega
theorem enumsP_modest : ∀ (l : List EnumD) (A : List ByteArray), (enumsP l A).1 = 0 → ∀ m ∈ l, m.values.length ≤ 16
  | [], _, _, m, hm => by cases hm
  | a :: r, A, h, m, hm => by
    simp only [enumsP] at h
    split at h
    · rename_i h1; exact absurd h h1
    · rename_i h1
      rcases List.mem_cons.1 hm with rfl | hm
      · exact enumC_modest (by simpa using h1)
      · exact enumsP_modest r _ h m hm
theorem check_modest {x : SchemaD} (h : checkP x = 0) : x.Modest := by
  unfold checkP at h
  split at h
  · cases h
  · split at h
    · cases h
    · split at h
      · cases h
      · split at h
        · rename_i h1; exact absurd h h1
        · rename_i h1
          split at h
          · rename_i h2; exact absurd h h2
          · rename_i h2
            have h1' := msgsP_modest _ _ (by simpa using h1)
            have h2' := enumsP_modest _ _ (by simpa using h2)
            exact ⟨by omega, by omega, by omega, fun m hm => by have := h1' m hm; omega, fun m hm => by have := h2' m hm; omega⟩

end Go.Proofs.YtkpgaccgcdoijaaGreatDoor

namespace Go.Proofs.YtkpgaccgcdoijaaGreatDoor
open Go.RowKit

/-! ### print.Read -/
def readP (s : ByteArray) : SchemaD × Int × Int :=
  if (parseQ s).2.2 ≠ 0 then (noSchema, (parseQ s).2.1, (parseQ s).2.2) else if checkP (parseQ s).1 ≠ 0 then (noSchema, 0, checkP (parseQ s).1) else (canonP (parseQ s).1, 0, 0)
def ReadPost (s : ByteArray) (w : World) (e : Ending) (w' : World) : Prop :=
  ∃ vm ve vc, e = .returned (.tuple #[.agg #[.string (readP s).1.name, vm, ve, vc], .int .i64 (readP s).2.1, .int .i64 (readP s).2.2]) ∧ OwnSchema w' w.heap.size w'.heap.size (readP s).1 vm ve vc ∧ Below w.heap.size w w'

set_option maxHeartbeats 8000000 in
set_option maxRecDepth 100000 in
theorem read_calls (s : ByteArray) (w : World) (hT : Tabs w) (hs : s.size ≤ maxLen) : Calls Tryz.prog 18 #[.string s] w (ReadPost s w) := by
  have hfit := parse_fit s hs
  have hrd : readP s = if (parseQ s).2.2 ≠ 0 then (noSchema, (parseQ s).2.1, (parseQ s).2.2) else if checkP (parseQ s).1 ≠ 0 then (noSchema, 0, checkP (parseQ s).1) else (canonP (parseQ s).1, 0, 0) := rfl
  have hb0 := (Below.refl w.heap.size w).alloc (Nat.le_refl _) (.cells #[.string noText, .slice none 0 0, .slice none 0 0, .slice none 0 0] 26)
  have hn0 := heap_alloc_new w (.cells #[.string noText, .slice none 0 0, .slice none 0 0, .slice none 0 0] 26)
  have cP := parse_calls s _ (hT.below hb0) hs
  unfold ParsePost at cP
  generalize parseQ s = r at hfit hrd cP
  replace cP := Lib.hid cP; replace hfit := Lib.hid hfit; replace hrd := Lib.hid hrd; replace hb0 := Lib.hid hb0; replace hn0 := Lib.hid hn0; replace hT := Lib.hid hT; replace hs := Lib.hid hs
  go_enter Tryz.func18, Tryz.ntmps18
  go_wp2_with fail
  refine cP.out.mono ?_; rintro e w1 ⟨vm, ve, vc, rfl, ho1, hb1⟩
  rw [sizeAlloc] at ho1 hb1
  obtain ⟨mA, mc, rfl⟩ := own_slice ho1.choose_spec.choose_spec.1
  obtain ⟨eA, ec, rfl⟩ := own_slice ho1.choose_spec.choose_spec.2.1
  obtain ⟨cA, cc, rfl⟩ := own_slice ho1.choose_spec.choose_spec.2.2.1
  have hR1 := (hb1.block w.heap.size (by omega)).trans hn0.out
  have hszz : w.heap.size + 1 ≤ w1.heap.size := by have := hb1.size; simpa using this
  -- the world behind the copy of what was parsed
  have hR2 := blk_alloc hR1 (.cells #[.string r.1.name, .slice mA r.1.messages.length mc, .slice eA r.1.enums.length ec, .slice cA r.1.methods.length cc] 26)
  have hX2 := heap_alloc_new w1 (.cells #[.string r.1.name, .slice mA r.1.messages.length mc, .slice eA r.1.enums.length ec, .slice cA r.1.methods.length cc] 26)
  have hB2 := ((hb0.out.trans (hb1.mono (by omega))).alloc (by omega) (.cells #[.string r.1.name, .slice mA r.1.messages.length mc, .slice eA r.1.enums.length ec, .slice cA r.1.methods.length cc] 26))
  by_cases h0 : r.2.2 = 0
  · have h0' : ((r.2.2 : Int) != 0) = false := by simpa using h0
    have hrd2 : readP s = if checkP r.1 ≠ 0 then (noSchema, 0, checkP r.1) else (canonP r.1, 0, 0) := by rw [hrd.out, if_neg (by simpa using h0)]
    have hrd' := ho1
    have hs2 := (SchemaRd.own ho1).kept (w' := w1.alloc (.cells #[.string r.1.name, .slice mA r.1.messages.length mc, .slice eA r.1.enums.length ec, .slice cA r.1.methods.length cc] 26)) (S' := fun k => k < (w1.alloc (.cells #[.string r.1.name, .slice mA r.1.messages.length mc, .slice eA r.1.enums.length ec, .slice cA r.1.methods.length cc] 26)).heap.size) (fun b hb => Below.heap_alloc _ _ b hb) (fun b hb => by rw [sizeAlloc]; omega)
    have cK := check_calls r.1 _ _ _ _ hs2 (hT.out.below hB2) hfit.out
    have hx0 := blk_cell hX2 0
    have hx1 := blk_cell hX2 1
    have hx2 := blk_cell hX2 2
    have hx3 := blk_cell hX2 3
    simp only [List.getElem?_toArray, List.getElem?_cons_succ, List.getElem?_cons_zero] at hx0 hx1 hx2 hx3
    replace cK := Lib.hid cK; replace hs2 := Lib.hid hs2; replace hrd2 := Lib.hid hrd2; replace ho1 := Lib.hid ho1; replace hb1 := Lib.hid hb1; replace hR1 := Lib.hid hR1; replace hR2 := Lib.hid hR2; replace hX2 := Lib.hid hX2; replace hB2 := Lib.hid hB2; replace h0 := Lib.hid h0; replace hrd' := Lib.hid hrd'
    go_wp2_with fail
    refine cK.out.mono ?_; rintro e w3 ⟨rfl, hb3⟩
    have hB3 := hB2.out.trans (hb3.mono (by simp; omega))
    have hX3 := (hb3.block _ (blk_lt hX2.out)).trans hX2.out
    have hR3 := (hb3.block _ (blk_lt hR2.out)).trans hR2.out
    have hs3 := hs2.out.kept (w' := w3) (S' := fun k => k < w3.heap.size) hb3.block (fun b hb => Nat.lt_of_lt_of_le hb hb3.size)
    have hsz3 : w.heap.size + 1 ≤ w3.heap.size := by have := hb3.size; rw [sizeAlloc] at this; omega
    have hy0 := blk_cell hX3 0
    have hy1 := blk_cell hX3 1
    have hy2 := blk_cell hX3 2
    have hy3 := blk_cell hX3 3
    have hz0 := blk_cell hR3 0
    have hz1 := blk_cell hR3 1
    have hz2 := blk_cell hR3 2
    have hz3 := blk_cell hR3 3
    have hzf := blk_frozen hR3
    simp only [List.getElem?_toArray, List.getElem?_cons_succ, List.getElem?_cons_zero] at hy0 hy1 hy2 hy3 hz0 hz1 hz2 hz3
    clear hx0 hx1 hx2 hx3
    by_cases hk0 : checkP r.1 = 0
    · have hk' : ((checkP r.1 : Int) != 0) = false := by simpa using hk0
      have hrd3 : readP s = (canonP r.1, 0, 0) := by rw [hrd2.out, if_neg (by simpa using hk0)]
      have cC := canon_calls r.1 _ _ _ w3 hs3 (check_modest hk0)
      replace cC := Lib.hid cC; replace hs3 := Lib.hid hs3; replace hrd3 := Lib.hid hrd3; replace hb3 := Lib.hid hb3; replace hB3 := Lib.hid hB3; replace hX3 := Lib.hid hX3; replace hR3 := Lib.hid hR3; replace hk0 := Lib.hid hk0
      go_wp2_with fail
      refine cC.out.mono ?_; rintro e w4 ⟨wm, we, wc, rfl, ho4, hb4⟩
      obtain ⟨nA, nc, rfl⟩ := own_slice ho4.choose_spec.choose_spec.1
      obtain ⟨iA, ic, rfl⟩ := own_slice ho4.choose_spec.choose_spec.2.1
      obtain ⟨jA, jc, rfl⟩ := own_slice ho4.choose_spec.choose_spec.2.2.1
      have hR4 := (hb4.block _ (by omega)).trans hR3.out
      have hu0 := blk_cell hR4 0
      have hu1 := blk_cell hR4 1
      have hu2 := blk_cell hR4 2
      have hu3 := blk_cell hR4 3
      have huf := blk_frozen hR4
      simp only [List.getElem?_toArray, List.getElem?_cons_succ, List.getElem?_cons_zero] at hu0 hu1 hu2 hu3
      have hB4 := Lib.hid (hB3.out.trans (hb4.mono (by omega)))
      have ho5 := Lib.hid ((ho4.same (fun k hk => set4_same (b := w.heap.size) (.string r.1.name) (.slice nA (canonP r.1).messages.length nc) (.slice iA (canonP r.1).enums.length ic) (.slice jA (canonP r.1).methods.length jc) k (by omega))).wider (B' := w.heap.size) (by omega) (Nat.le_refl _))
      replace ho4 := Lib.hid ho4; replace hb4 := Lib.hid hb4; replace hR4 := Lib.hid hR4
      go_wp2
      refine bodyPost_ret (v := .tuple #[.agg #[.string r.1.name, .slice nA (canonP r.1).messages.length nc, .slice iA (canonP r.1).enums.length ic, .slice jA (canonP r.1).methods.length jc], .int .i64 0, .int .i64 0]) (by simp [results, Tryz.results18, go_sem, *]) rfl ?_
      refine ⟨_, _, _, by rw [hrd3.out]; rfl, ?_, ?_⟩
      · rw [hrd3.out]
        exact ho5.out.wider (Nat.le_refl _) (by simp [World.setCell])
      · exact hB4.out.setCell (Nat.le_refl _) _ |>.setCell (Nat.le_refl _) _ |>.setCell (Nat.le_refl _) _ |>.setCell (Nat.le_refl _) _
    · have hk' : ((checkP r.1 : Int) != 0) = true := by simpa using hk0
      have hrd3 : readP s = (noSchema, 0, checkP r.1) := by rw [hrd2.out, if_pos (by simpa using hk0)]
      replace hs3 := Lib.hid hs3; replace hrd3 := Lib.hid hrd3; replace hb3 := Lib.hid hb3; replace hB3 := Lib.hid hB3; replace hX3 := Lib.hid hX3; replace hR3 := Lib.hid hR3; replace hk0 := Lib.hid hk0
      go_wp2
      refine bodyPost_ret (v := .tuple #[.agg #[.string noText, .slice none 0 0, .slice none 0 0, .slice none 0 0], .int .i64 0, .int .i64 (checkP r.1)]) (by simp [results, Tryz.results18, go_sem, *, noText]) rfl ?_
      refine ⟨.slice none 0 0, .slice none 0 0, .slice none 0 0, by rw [hrd3.out]; rfl, by rw [hrd3.out]; exact OwnSchema.none _ (by simp [World.setCell]; omega), ?_⟩
      exact hB3.out.setCell (Nat.le_refl _) _ |>.setCell (Nat.le_refl _) _ |>.setCell (Nat.le_refl _) _ |>.setCell (Nat.le_refl _) _
  · have h0' : ((r.2.2 : Int) != 0) = true := by simpa using h0
    have hrd3 : readP s = (noSchema, r.2.1, r.2.2) := by rw [hrd.out, if_pos (by simpa using h0)]
    have hz0 := blk_cell hR2 0
    have hz1 := blk_cell hR2 1
    have hz2 := blk_cell hR2 2
    have hz3 := blk_cell hR2 3
    have hzf := blk_frozen hR2
    simp only [List.getElem?_toArray, List.getElem?_cons_succ, List.getElem?_cons_zero] at hz0 hz1 hz2 hz3
    replace hrd3 := Lib.hid hrd3; replace ho1 := Lib.hid ho1; replace hb1 := Lib.hid hb1; replace hR1 := Lib.hid hR1; replace hR2 := Lib.hid hR2; replace hX2 := Lib.hid hX2; replace hB2 := Lib.hid hB2; replace h0 := Lib.hid h0
    go_wp2
    refine bodyPost_ret (v := .tuple #[.agg #[.string noText, .slice none 0 0, .slice none 0 0, .slice none 0 0], .int .i64 r.2.1, .int .i64 r.2.2]) (by simp [results, Tryz.results18, go_sem, *, noText]) rfl ?_
    refine ⟨.slice none 0 0, .slice none 0 0, .slice none 0 0, by rw [hrd3.out]; rfl, by rw [hrd3.out]; exact OwnSchema.none _ (by simp [World.setCell]; omega), ?_⟩
    exact hB2.out.setCell (Nat.le_refl _) _ |>.setCell (Nat.le_refl _) _ |>.setCell (Nat.le_refl _) _ |>.setCell (Nat.le_refl _) _

end Go.Proofs.YtkpgaccgcdoijaaGreatDoor

namespace Go.Proofs.YtkpgaccgcdoijaaGreatDoor
open Go.RowKit

/-! ### the document's example -/
def exText : ByteArray := ⟨#[115, 99, 104, 101, 109, 97, 32, 97, 59, 32, 109, 101, 115, 115, 97, 103, 101, 32, 109, 32, 123, 32, 105, 110, 116, 51, 50, 32, 120, 32, 61, 32, 49, 59, 32, 125]⟩
def exField : FieldD := { name := ⟨#[120]⟩, tag := 1, label := 1, kind := 1, tname := noText }
def exSchema : SchemaD := { name := ⟨#[97]⟩, messages := [{ name := ⟨#[109]⟩, fields := [exField], reserved := [] }], enums := [], methods := [] }
def exPrint : ByteArray := ⟨#[115, 99, 104, 101, 109, 97, 32, 97, 59, 10, 109, 101, 115, 115, 97, 103, 101, 32, 109, 32, 123, 10, 32, 32, 105, 110, 116, 51, 50, 32, 120, 32, 61, 32, 49, 59, 10, 125, 10]⟩
theorem ex_canon : canonP exSchema = exSchema := by
  unfold canonP exSchema canonM sortBy
  simp
theorem ex_parse : parseQ exText = (exSchema, 0, 0) := by kernel_rfl
theorem ex_check : checkP exSchema = 0 := by kernel_rfl
theorem ex_read : readP exText = (exSchema, 0, 0) := by
  unfold readP
  rw [ex_parse, if_neg (by simp), if_neg (by simp [ex_check]), ex_canon]
theorem ex_print : printP exSchema = exPrint.data.toList := by
  unfold printP
  rw [ex_canon]
  kernel_rfl

theorem ex_prints : exSchema.Prints := by
  refine ⟨⟨by decide, by decide, by decide, ?_, ?_⟩, ⟨by decide, ?_, ?_, ?_⟩, ?_⟩
  · intro m hm
    simp only [exSchema, List.mem_singleton] at hm
    subst hm
    exact ⟨by decide, by decide⟩
  · intro m hm; cases hm
  · intro m hm
    simp only [exSchema, List.mem_singleton] at hm
    subst hm
    refine ⟨by decide, fun f hf => ?_, fun n hn => by cases hn⟩
    simp only [List.mem_singleton] at hf
    subst hf
    exact ⟨by decide, by decide, ⟨by decide, by decide⟩, ⟨by decide, by decide⟩, ⟨by decide, by decide⟩⟩
  · intro m hm; cases hm
  · intro m hm; cases hm
  · rw [ex_print]; decide

set_option maxHeartbeats 4000000 in
set_option maxRecDepth 100000 in
theorem awake_calls (w : World) (hT : Tabs w) : Calls Tryz.prog 10 #[] w fun e w' => e = .returned (.bool true) ∧ Below w.heap.size w w' := by
  have cR := read_calls exText w hT (by decide)
  unfold ReadPost at cR
  rw [ex_read] at cR
  have hsz : exSchema.name.size = 1 := rfl
  replace cR := Lib.hid cR; replace hT := Lib.hid hT
  clear hsz
  go_enter Tryz.func10, Tryz.ntmps10
  go_wp2_with fail
  refine cR.out.mono ?_; rintro e w1 ⟨vm, ve, vc, rfl, ho, hb⟩
  obtain ⟨mA, mc, rfl⟩ := own_slice ho.choose_spec.choose_spec.1
  obtain ⟨eA, ec, rfl⟩ := own_slice ho.choose_spec.choose_spec.2.1
  obtain ⟨cA, cc, rfl⟩ := own_slice ho.choose_spec.choose_spec.2.2.1
  obtain ⟨x, hx⟩ : ∃ x, x = exSchema := ⟨_, rfl⟩
  rw [← hx] at ho ⊢
  have hbn := heap_alloc_new w1 (.cells #[.string x.name, .slice mA x.messages.length mc, .slice eA x.enums.length ec, .slice cA x.methods.length cc] 26)
  have hB := hb.alloc (by exact hb.size) (.cells #[.string x.name, .slice mA x.messages.length mc, .slice eA x.enums.length ec, .slice cA x.methods.length cc] 26)
  have hk0 := blk_cell hbn 0
  have hk1 := blk_cell hbn 1
  have hk2 := blk_cell hbn 2
  have hk3 := blk_cell hbn 3
  simp only [List.getElem?_toArray, List.getElem?_cons_succ, List.getElem?_cons_zero] at hk0 hk1 hk2 hk3
  have hsr := (SchemaRd.own ho).kept (w' := w1.alloc (.cells #[.string x.name, .slice mA x.messages.length mc, .slice eA x.enums.length ec, .slice cA x.methods.length cc] 26)) (S' := fun k => k < (w1.alloc (.cells #[.string x.name, .slice mA x.messages.length mc, .slice eA x.enums.length ec, .slice cA x.methods.length cc] 26)).heap.size) (fun b hb => Below.heap_alloc _ _ b hb) (fun b hb => by rw [sizeAlloc]; omega)
  have hpx : x.Prints := by rw [hx]; exact ex_prints
  have cP := print_calls x _ _ _ _ hsr hpx.modest hpx.fit (hT.out.below hB) hpx.len
  have hpr : (⟨(printP x).toArray⟩ : ByteArray) = exPrint := by rw [hx, ex_print]
  unfold PrintPost at cP
  rw [hpr] at cP
  unfold exPrint at cP
  have hszb := hb.size
  replace cP := Lib.hid cP; replace hsr := Lib.hid hsr; replace hbn := Lib.hid hbn; replace hB := Lib.hid hB; replace ho := Lib.hid ho; replace hb := Lib.hid hb; replace hx := Lib.hid hx; replace hpx := Lib.hid hpx; replace hpr := Lib.hid hpr
  go_wp2_with fail
  refine cP.out.mono ?_; rintro e w3 ⟨rfl, hb3⟩
  have hbn3 := (hb3.block _ (blk_lt hbn.out)).trans hbn.out
  have hB3 := hB.out.trans (hb3.mono (by simp; omega))
  have hsr3 := hsr.out.kept (w' := w3) (S' := fun k => k < w3.heap.size) hb3.block (fun b hb => Nat.lt_of_lt_of_le hb hb3.size)
  have hu0 := blk_cell hbn3 0
  have hu1 := blk_cell hbn3 1
  have hu2 := blk_cell hbn3 2
  have hu3 := blk_cell hbn3 3
  simp only [List.getElem?_toArray, List.getElem?_cons_succ, List.getElem?_cons_zero] at hu0 hu1 hu2 hu3
  have cS := same_calls x x _ _ _ _ _ _ w3 hsr3 hsr3 hpx.out hpx.out (hT.out.below hB3)
  have hsame : sameP x x = true := by unfold sameP; simp
  rw [hsame] at cS
  have hsz3 := hb3.size
  rw [sizeAlloc] at hsz3
  replace cS := Lib.hid cS; replace hb3 := Lib.hid hb3; replace hbn3 := Lib.hid hbn3; replace hB3 := Lib.hid hB3; replace hsr3 := Lib.hid hsr3; replace hsame := Lib.hid hsame
  clear hk0 hk1 hk2 hk3
  go_wp2_with fail
  refine cS.out.mono ?_; rintro e w4 ⟨rfl, hb4⟩
  have hfin := Lib.hid (hB3.out.trans (hb4.mono (by omega)))
  replace hb4 := Lib.hid hb4
  go_wp2
  go_ret
  exact ⟨rfl, hfin.out⟩

end Go.Proofs.YtkpgaccgcdoijaaGreatDoor

namespace Go.Proofs.YtkpgaccgcdoijaaGreatDoor
open Go.RowKit

/-! ### laws00.Few -/
def fewF (f : FieldD) : Bool := decide (f.name.size ≤ 200) && decide (f.tname.size ≤ 200)
def fewM (m : MessageD) : Bool := decide (m.fields.length ≤ 20) && (decide (m.reserved.length ≤ 40) && m.fields.all fewF)
def fewV (v : NamedD) : Bool := decide (v.name.size ≤ 200)
def fewE (e : EnumD) : Bool := decide (e.name.size ≤ 200) && (decide (e.values.length ≤ 24) && e.values.all fewV)
def fewC (c : MethodD) : Bool := decide (c.name.size ≤ 200) && (decide (c.inp.size ≤ 200) && decide (c.outp.size ≤ 200))
def nameSum (l : List MessageD) : Nat := (l.map (·.name.size)).sum
def fewEnd (x : SchemaD) (n : Nat) : Bool := decide (n < 3000) && (decide (x.messages.length ≤ 14) && (decide (x.enums.length ≤ 10) && decide (x.methods.length ≤ 10)))
def fewFrom3 (x : SchemaD) (k n : Nat) : Bool := ((x.methods.take 20).drop k).all fewC && fewEnd x n
def fewFrom2 (x : SchemaD) (k n : Nat) : Bool := ((x.enums.take 20).drop k).all fewE && fewFrom3 x 0 n
def fewFrom1 (x : SchemaD) (k n : Nat) : Bool := ((x.messages.take 20).drop k).all fewM && fewFrom2 x 0 (n + nameSum ((x.messages.take 20).drop k))
def fewB (x : SchemaD) : Bool := fewFrom1 x 0 x.name.size

theorem drop_take_cons {α : Type} {l : List α} {k : Nat} (h : k < l.length) (h2 : k < 20) : (l.take 20).drop k = l[k] :: (l.take 20).drop (k + 1) := by
  have hl : k < (l.take 20).length := by rw [List.length_take]; omega
  rw [List.drop_eq_getElem_cons hl, List.getElem_take]
theorem drop_take_nil {α : Type} {l : List α} {k : Nat} (h : ¬ (k < l.length ∧ k < 20)) : (l.take 20).drop k = [] := List.drop_eq_nil_of_le (by rw [List.length_take]; omega)
theorem fewFrom1_step {x : SchemaD} {k n : Nat} (h : k < x.messages.length) (h2 : k < 20) : fewFrom1 x k n = (fewM x.messages[k] && fewFrom1 x (k + 1) (n + x.messages[k].name.size)) := by
  unfold fewFrom1
  rw [drop_take_cons h h2, List.all_cons, Bool.and_assoc]
  congr 2
  show fewFrom2 x 0 (n + nameSum (_ :: _)) = _
  unfold nameSum
  rw [List.map_cons, List.sum_cons, Nat.add_assoc]
theorem fewFrom1_end {x : SchemaD} {k n : Nat} (h : ¬ (k < x.messages.length ∧ k < 20)) : fewFrom1 x k n = fewFrom2 x 0 n := by
  unfold fewFrom1
  rw [drop_take_nil h]; rfl
theorem fewFrom2_step {x : SchemaD} {k n : Nat} (h : k < x.enums.length) (h2 : k < 20) : fewFrom2 x k n = (fewE x.enums[k] && fewFrom2 x (k + 1) n) := by
  unfold fewFrom2
  rw [drop_take_cons h h2, List.all_cons, Bool.and_assoc]
theorem fewFrom2_end {x : SchemaD} {k n : Nat} (h : ¬ (k < x.enums.length ∧ k < 20)) : fewFrom2 x k n = fewFrom3 x 0 n := by
  unfold fewFrom2
  rw [drop_take_nil h]; rfl
theorem fewFrom3_step {x : SchemaD} {k n : Nat} (h : k < x.methods.length) (h2 : k < 20) : fewFrom3 x k n = (fewC x.methods[k] && fewFrom3 x (k + 1) n) := by
  unfold fewFrom3
  rw [drop_take_cons h h2, List.all_cons, Bool.and_assoc]
theorem fewFrom3_end {x : SchemaD} {k n : Nat} (h : ¬ (k < x.methods.length ∧ k < 20)) : fewFrom3 x k n = fewEnd x n := by
  unfold fewFrom3
  rw [drop_take_nil h]; rfl

/-- Texts that a process can hold. -/
structure SchemaD.Reach (x : SchemaD) : Prop where
  name : x.name.size ≤ 140737488355328
  messages : ∀ m ∈ x.messages, m.name.size ≤ 140737488355328

def FewTurn (x : SchemaD) (C : World → Prop) (t : Value) (wx : World) : Prop := ∃ n : Nat, t = .int .i64 n ∧ n ≤ 2955487255461888 ∧ C wx ∧ fewB x = fewFrom2 x 0 n
def FewTurn3 (x : SchemaD) (n : Nat) (C : World → Prop) (wx : World) : Prop := C wx ∧ fewB x = fewFrom3 x 0 n
def FewTurn4 (x : SchemaD) (n : Nat) (C : World → Prop) (wx : World) : Prop := C wx ∧ fewB x = fewEnd x n
theorem FewTurn.mk {x : SchemaD} {C : World → Prop} {wx : World} (n k : Nat) (h : n ≤ (k + 1) * 140737488355328) (hk : k ≤ 20) (hC : C wx) (he : fewB x = fewFrom2 x 0 n) : FewTurn x C (.int .i64 n) wx := ⟨n, rfl, by omega, hC, he⟩

set_option maxHeartbeats 16000000 in
set_option maxRecDepth 100000 in
theorem few_calls (x : SchemaD) (vm ve vc : Value) (w : World) (h : SchemaRd w (fun k => k < w.heap.size) x vm ve vc) (hx : x.Reach) (hf : x.Fit) :
    Calls Tryz.prog 9 #[.agg #[.string x.name, vm, ve, vc]] w fun e w' => e = .returned (.bool (fewB x)) ∧ Below w.heap.size w w' := by
  obtain ⟨mcs, ecs, h1, h2, h3, h4, h5⟩ := h
  obtain ⟨mA, mc, rfl⟩ := h1.slice
  obtain ⟨eA, ec, rfl⟩ := h2.slice
  obtain ⟨cA, cc, rfl⟩ := h3.slice
  have hl1 := h1.len
  have hl2 := h2.len
  have hl3 := h3.len
  unfold maxLen at hl1 hl2 hl3
  have hck : CkS w #[.string x.name, .slice mA x.messages.length mc, .slice eA x.enums.length ec, .slice cA x.methods.length cc] (w.alloc (.cells #[.string x.name, .slice mA x.messages.length mc, .slice eA x.enums.length ec, .slice cA x.methods.length cc] 26)) :=
    ⟨(Below.refl w.heap.size w).alloc (Nat.le_refl _) _, heap_alloc_new w _, by simp⟩
  have hn0 := hx.name
  replace h1 := Lib.hid h1; replace h2 := Lib.hid h2; replace h3 := Lib.hid h3; replace h4 := Lib.hid h4; replace h5 := Lib.hid h5; replace hx := Lib.hid hx; replace hf := Lib.hid hf; replace hck := Lib.hid hck
  go_enter Tryz.func9, Tryz.ntmps9
  go_upto_block 0 with fail
  go_cut [3] (fun t wx => FewTurn x (CkS w #[.string x.name, .slice mA x.messages.length mc, .slice eA x.enums.length ec, .slice cA x.methods.length cc]) t wx)
  case first =>
    go_wp2
    go_loopw [3, 4] (fun t i wr => ∃ k n : Nat, k ≤ x.messages.length ∧ k ≤ 20 ∧ n ≤ (k + 1) * 140737488355328 ∧ t = .int .i64 n ∧ i = .int .i64 k ∧ CkS w #[.string x.name, .slice mA x.messages.length mc, .slice eA x.enums.length ec, .slice cA x.methods.length cc] wr ∧ fewB x = fewFrom1 x k n) (fun _ i _ => 20 - (intOf i).toNat)
    case atStart => exact ⟨0, x.name.size, Nat.zero_le _, by omega, by omega, rfl, rfl, hck.out, rfl⟩
    case round =>
      obtain ⟨k, n, hk, hk2, hn, rfl, rfl, hck, hst⟩ := hrel
      have hs1 := blk_cell hck.s 1
      simp only [List.getElem?_toArray, List.getElem?_cons_succ, List.getElem?_cons_zero] at hs1
      obtain ⟨wk, rfl⟩ : ∃ wo : World, wo = wr := ⟨_, rfl⟩
      by_cases hlt : k < x.messages.length
      · have hlt' : (k : Int) < (x.messages.length : Int) := by omega
        by_cases hk20 : k < 20
        · have hk20' : (k : Int) < 20 := by omega
          obtain ⟨g, o, c, hv, _, hc⟩ := h1.out.form (by omega)
          injection hv with hv1 hv2 hv3
          subst hv1; subst hv3
          obtain ⟨vf, vr, q0, q1, q2, gf, gr⟩ := h4.out.get k hlt
          obtain ⟨fA, fc, rfl⟩ := gf.slice
          obtain ⟨rA, rc, rfl⟩ := gr.slice
          have hfl := gf.len
          have hrl := gr.len
          unfold maxLen at hfl hrl
          have hd0 := h1.out.at_ (w' := wk) (by omega) hck.below.block k 0 (by omega) q0
          have hd1 := h1.out.at_ (w' := wk) (by omega) hck.below.block k 1 (by omega) q1
          have hd2 := h1.out.at_ (w' := wk) (by omega) hck.below.block k 2 (by omega) q2
          simp only [Nat.add_zero] at hd0
          rw [fewFrom1_step hlt hk20] at hst
          have hnm := hx.out.messages x.messages[k] (List.getElem_mem hlt)
          have hmf := hf.out.messages x.messages[k] (List.getElem_mem hlt)
          have hat : ∀ (W : World), Below w.heap.size w W → W.cell? ⟨g, o + k * 3, none⟩ = some (.string x.messages[k].name) ∧ W.cell? ⟨g, o + k * 3 + 1, none⟩ = some (.slice fA x.messages[k].fields.length fc) := fun W hW =>
            ⟨by simpa using h1.out.at_ (w' := W) (by omega) hW.block k 0 (by omega) q0, h1.out.at_ (w' := W) (by omega) hW.block k 1 (by omega) q1⟩
          generalize x.messages[k] = m at hd0 hd1 hd2 hst hnm hmf gf gr hat hfl hrl
          replace hat := Lib.hid hat; replace gf := Lib.hid gf; replace gr := Lib.hid gr; replace hmf := Lib.hid hmf
          clear hc q0 q1 q2
          by_cases ha : m.fields.length ≤ 20
          · have ha' : ¬ ((20 : Int) < (m.fields.length : Int)) := by omega
            by_cases hb : m.reserved.length ≤ 40
            · have hb' : ¬ ((40 : Int) < (m.reserved.length : Int)) := by omega
              have hst1 : Hid (fewB x = (m.fields.all fewF && fewFrom1 x (k + 1) (n + m.name.size))) := Lib.hid (by rw [hst, fewM, decide_eq_true ha, decide_eq_true hb]; rfl)
              have hcd := Lib.hid hck
              replace hst := Lib.hid hst; replace hck := Lib.hid hck
              go_wp2
              go_loopw [5] (fun i wr => ∃ j : Nat, j ≤ m.fields.length ∧ i = .int .i64 j ∧ CkS w #[.string x.name, .slice (some ⟨g, o, none⟩) x.messages.length mc, .slice eA x.enums.length ec, .slice cA x.methods.length cc] wr ∧ fewB x = ((m.fields.drop j).all fewF && fewFrom1 x (k + 1) (n + m.name.size))) (fun i _ => m.fields.length - (intOf i).toNat)
              case atStart => exact ⟨0, Nat.zero_le _, rfl, hcd.out, by rw [hst1.out]; rfl⟩
              case round =>
                obtain ⟨j, hj, rfl, hcj, hsj⟩ := hrel
                have hu1 := blk_cell hcj.s 1
                simp only [List.getElem?_toArray, List.getElem?_cons_succ, List.getElem?_cons_zero] at hu1
                obtain ⟨hv0, hv1⟩ := hat.out wr hcj.below
                clear hd0 hd1 hd2 hs1
                obtain ⟨wj, rfl⟩ : ∃ wo : World, wo = wr := ⟨_, rfl⟩
                by_cases hlj : j < m.fields.length
                · have hlj' : (j : Int) < (m.fields.length : Int) := by omega
                  obtain ⟨fg, fo, fc', hv, _, _⟩ := gf.out.form (by omega)
                  injection hv with hx1 hx2 hx3
                  subst hx1; subst hx3
                  have hfa : ∀ i v, i < 5 → (fieldCells m.fields[j])[i]? = some v → wj.cell? ⟨fg, fo + j * 5 + i, none⟩ = some v := fun i v hi hv =>
                    gf.out.at_ (by omega) hcj.below.block j i (by omega) ((flatMap_at fieldCells 5 (fun _ => rfl) m.fields j hlj i hi).trans hv)
                  have hfs := hmf.out.fields m.fields[j] (List.getElem_mem hlj)
                  rw [List.drop_eq_getElem_cons hlj, List.all_cons, Bool.and_assoc] at hsj
                  generalize m.fields[j] = f at hfa hsj hfs
                  obtain ⟨fn, ft, fl, fk, ftn⟩ := f
                  have e0 := hfa 0 _ (by decide) rfl
                  have e1 := hfa 1 _ (by decide) rfl
                  have e2 := hfa 2 _ (by decide) rfl
                  have e3 := hfa 3 _ (by decide) rfl
                  have e4 := hfa 4 _ (by decide) rfl
                  simp only [Nat.add_zero] at e0
                  have hz1 := hfs.name
                  have hz2 := hfs.tname
                  unfold maxLen at hz1 hz2
                  simp only at hz1 hz2 hsj
                  clear hfa hfs
                  have hca := hcj.alloc (.cells #[.string fn, .int .i64 ft, .int .i64 fl, .int .i64 fk, .string ftn] 44)
                  have hnb := heap_alloc_new wj (.cells #[.string fn, .int .i64 ft, .int .i64 fl, .int .i64 fk, .string ftn] 44)
                  have y0 := blk_cell hnb 0
                  have y4 := blk_cell hnb 4
                  simp only [List.getElem?_toArray, List.getElem?_cons_succ, List.getElem?_cons_zero] at y0 y4
                  replace hca := Lib.hid hca; replace hnb := Lib.hid hnb; replace hcj := Lib.hid hcj
                  by_cases hp : fn.size ≤ 200
                  · have hp' : ¬ ((200 : Int) < (fn.size : Int)) := by omega
                    by_cases hq : ftn.size ≤ 200
                    · have hq' : ¬ ((200 : Int) < (ftn.size : Int)) := by omega
                      have hs3 : Hid (fewB x = ((m.fields.drop (j + 1)).all fewF && fewFrom1 x (k + 1) (n + m.name.size))) := Lib.hid (by rw [hsj, fewF, decide_eq_true hp, decide_eq_true hq]; rfl)
                      replace hsj := Lib.hid hsj
                      go_wp2
                      go_roundw
                      case rel => exact ⟨j + 1, by omega, by go_num, hca.out, hs3.out⟩
                      case measure => simp [intOf]; omega
                    · have hq' : ((200 : Int) < (ftn.size : Int)) := by omega
                      have hs3 : Hid (fewB x = false) := Lib.hid (by rw [hsj, fewF, decide_eq_false hq]; simp)
                      replace hsj := Lib.hid hsj
                      go_wp2
                      go_ret
                      exact ⟨ret_bool hs3.out.symm, hca.out.below⟩
                  · have hp' : ((200 : Int) < (fn.size : Int)) := by omega
                    have hs3 : Hid (fewB x = false) := Lib.hid (by rw [hsj, fewF, decide_eq_false hp]; rfl)
                    replace hsj := Lib.hid hsj
                    go_wp2
                    go_ret
                    exact ⟨ret_bool hs3.out.symm, hca.out.below⟩
                · have hje : j = m.fields.length := by omega
                  subst hje
                  rw [List.drop_length] at hsj
                  have hs3 : Hid (fewB x = fewFrom1 x (k + 1) (n + m.name.size)) := Lib.hid hsj
                  replace hsj := Lib.hid hsj; replace hcj := Lib.hid hcj
                  go_wp2
                  go_roundw
                  case rel => exact ⟨k + 1, n + m.name.size, by omega, by omega, by omega, by go_num, by go_num, hcj.out, hs3.out⟩
                  case measure => simp [intOf]; omega
            · have hb' : ((40 : Int) < (m.reserved.length : Int)) := by omega
              have hfin : Hid (fewB x = false) := Lib.hid (by rw [hst, fewM, decide_eq_false hb]; simp)
              replace hst := Lib.hid hst; replace hck := Lib.hid hck
              go_wp2
              go_ret
              exact ⟨ret_bool hfin.out.symm, hck.out.below⟩
          · have ha' : ((20 : Int) < (m.fields.length : Int)) := by omega
            have hfin : Hid (fewB x = false) := Lib.hid (by rw [hst, fewM, decide_eq_false ha]; rfl)
            replace hst := Lib.hid hst; replace hck := Lib.hid hck
            go_wp2
            go_ret
            exact ⟨ret_bool hfin.out.symm, hck.out.below⟩
        · have hk20' : ¬ (k : Int) < 20 := by omega
          have hcut : Hid (FewTurn x (CkS w #[.string x.name, .slice mA x.messages.length mc, .slice eA x.enums.length ec, .slice cA x.methods.length cc]) (.int .i64 n) wk) := Lib.hid (FewTurn.mk n k hn hk2 hck (by rw [hst, fewFrom1_end (by omega)]))
          replace hst := Lib.hid hst; replace hck := Lib.hid hck
          go_wp2_with fail
          go_meet
          exact hcut.out
      · have hlt' : ¬ (k : Int) < (x.messages.length : Int) := by omega
        have hcut : Hid (FewTurn x (CkS w #[.string x.name, .slice mA x.messages.length mc, .slice eA x.enums.length ec, .slice cA x.methods.length cc]) (.int .i64 n) wk) := Lib.hid (FewTurn.mk n k hn hk2 hck (by rw [hst, fewFrom1_end (by omega)]))
        replace hst := Lib.hid hst; replace hck := Lib.hid hck
        go_wp2_with fail
        go_meet
        exact hcut.out
  case rest =>
    obtain ⟨n, rfl, hn, hck, hst⟩ := hcut
    obtain ⟨wd, rfl⟩ : ∃ wo : World, wo = wc := ⟨_, rfl⟩
    replace hst := Lib.hid hst; replace hck := Lib.hid hck
    go_upto_block 4 with fail
    go_cut [] (fun wx => FewTurn3 x n (CkS w #[.string x.name, .slice mA x.messages.length mc, .slice eA x.enums.length ec, .slice cA x.methods.length cc]) wx)
    case first =>
      go_wp2
      go_loopw [7] (fun i wr => ∃ k : Nat, k ≤ x.enums.length ∧ k ≤ 20 ∧ i = .int .i64 k ∧ CkS w #[.string x.name, .slice mA x.messages.length mc, .slice eA x.enums.length ec, .slice cA x.methods.length cc] wr ∧ fewB x = fewFrom2 x k n) (fun i _ => 20 - (intOf i).toNat)
      case atStart => exact ⟨0, Nat.zero_le _, by omega, rfl, hck.out, hst.out⟩
      case round =>
        obtain ⟨k, hk, hk2, rfl, hcr, hsr⟩ := hrel
        have hs2 := blk_cell hcr.s 2
        simp only [List.getElem?_toArray, List.getElem?_cons_succ, List.getElem?_cons_zero] at hs2
        obtain ⟨wk, rfl⟩ : ∃ wo : World, wo = wr := ⟨_, rfl⟩
        by_cases hlt : k < x.enums.length
        · have hlt' : (k : Int) < (x.enums.length : Int) := by omega
          by_cases hk20 : k < 20
          · have hk20' : (k : Int) < 20 := by omega
            obtain ⟨g, o, c, hv, _, hc⟩ := h2.out.form (by omega)
            injection hv with hv1 hv2 hv3
            subst hv1; subst hv3
            obtain ⟨vf, q0, q1, gf⟩ := h5.out.get k hlt
            obtain ⟨fA, fc, rfl⟩ := gf.slice
            have hfl := gf.len
            unfold maxLen at hfl
            have hd0 := h2.out.at_ (w' := wk) (by omega) hcr.below.block k 0 (by omega) q0
            have hd1 := h2.out.at_ (w' := wk) (by omega) hcr.below.block k 1 (by omega) q1
            simp only [Nat.add_zero] at hd0
            rw [fewFrom2_step hlt hk20] at hsr
            have hmf := hf.out.enums x.enums[k] (List.getElem_mem hlt)
            have hmn := hmf.name
            unfold maxLen at hmn
            generalize x.enums[k] = m at hd0 hd1 hsr hmf hmn gf hfl
            replace gf := Lib.hid gf; replace hmf := Lib.hid hmf
            clear hc q0 q1
            by_cases ha : m.name.size ≤ 200
            · have ha' : ¬ ((200 : Int) < (m.name.size : Int)) := by omega
              by_cases hb : m.values.length ≤ 24
              · have hb' : ¬ ((24 : Int) < (m.values.length : Int)) := by omega
                have hs1 : Hid (fewB x = (m.values.all fewV && fewFrom2 x (k + 1) n)) := Lib.hid (by rw [hsr, fewE, decide_eq_true ha, decide_eq_true hb]; rfl)
                replace hsr := Lib.hid hsr; replace hcr := Lib.hid hcr
                go_wp2
                go_loop [8] (fun i => ∃ j : Nat, j ≤ m.values.length ∧ i = .int .i64 j ∧ fewB x = ((m.values.drop j).all fewV && fewFrom2 x (k + 1) n)) (fun i => m.values.length - (intOf i).toNat)
                case atStart => exact ⟨0, Nat.zero_le _, rfl, by rw [hs1.out]; rfl⟩
                case round =>
                  obtain ⟨j, hj, rfl, hsj⟩ := hrel
                  by_cases hlj : j < m.values.length
                  · have hlj' : (j : Int) < (m.values.length : Int) := by omega
                    obtain ⟨fg, fo, fc', hv, _, _⟩ := gf.out.form (by omega)
                    injection hv with hx1 hx2 hx3
                    subst hx1; subst hx3
                    have e0 := gf.out.at_ (w' := wk) (by omega) hcr.out.below.block j 0 (by omega) (v := .string m.values[j].name) (by rw [namedsCells, flatMap_at namedCells 2 (fun _ => rfl) m.values j hlj 0 (by decide)]; rfl)
                    have hfs := (hmf.out.values m.values[j] (List.getElem_mem hlj)).1
                    unfold maxLen at hfs
                    rw [List.drop_eq_getElem_cons hlj, List.all_cons] at hsj
                    generalize m.values[j] = f at e0 hsj hfs
                    simp only [Nat.add_zero] at e0
                    by_cases hp : f.name.size ≤ 200
                    · have hp' : ¬ ((200 : Int) < (f.name.size : Int)) := by omega
                      have hs3 : Hid (fewB x = ((m.values.drop (j + 1)).all fewV && fewFrom2 x (k + 1) n)) := Lib.hid (by rw [hsj, fewV, decide_eq_true hp]; rfl)
                      replace hsj := Lib.hid hsj
                      go_wp2
                      go_round
                      case rel => exact ⟨j + 1, by omega, by go_num, hs3.out⟩
                      case measure => simp [intOf]; omega
                    · have hp' : ((200 : Int) < (f.name.size : Int)) := by omega
                      have hs3 : Hid (fewB x = false) := Lib.hid (by rw [hsj, fewV, decide_eq_false hp]; rfl)
                      replace hsj := Lib.hid hsj
                      go_wp2
                      go_ret
                      exact ⟨ret_bool hs3.out.symm, hcr.out.below⟩
                  · have hje : j = m.values.length := by omega
                    subst hje
                    rw [List.drop_length] at hsj
                    have hs3 : Hid (fewB x = fewFrom2 x (k + 1) n) := Lib.hid hsj
                    replace hsj := Lib.hid hsj
                    go_wp2
                    go_roundw
                    case rel => exact ⟨k + 1, by omega, by omega, by go_num, hcr.out, hs3.out⟩
                    case measure => simp [intOf]; omega
              · have hb' : ((24 : Int) < (m.values.length : Int)) := by omega
                have hfin : Hid (fewB x = false) := Lib.hid (by rw [hsr, fewE, decide_eq_false hb]; simp)
                replace hsr := Lib.hid hsr; replace hcr := Lib.hid hcr
                go_wp2
                go_ret
                exact ⟨ret_bool hfin.out.symm, hcr.out.below⟩
            · have ha' : ((200 : Int) < (m.name.size : Int)) := by omega
              have hfin : Hid (fewB x = false) := Lib.hid (by rw [hsr, fewE, decide_eq_false ha]; rfl)
              replace hsr := Lib.hid hsr; replace hcr := Lib.hid hcr
              go_wp2
              go_ret
              exact ⟨ret_bool hfin.out.symm, hcr.out.below⟩
          · have hk20' : ¬ (k : Int) < 20 := by omega
            have hcut : Hid (FewTurn3 x n (CkS w #[.string x.name, .slice mA x.messages.length mc, .slice eA x.enums.length ec, .slice cA x.methods.length cc]) wk) := Lib.hid ⟨hcr, by rw [hsr, fewFrom2_end (by omega)]⟩
            replace hsr := Lib.hid hsr; replace hcr := Lib.hid hcr
            go_wp2_with fail
            go_meet
            exact hcut.out
        · have hlt' : ¬ (k : Int) < (x.enums.length : Int) := by omega
          have hcut : Hid (FewTurn3 x n (CkS w #[.string x.name, .slice mA x.messages.length mc, .slice eA x.enums.length ec, .slice cA x.methods.length cc]) wk) := Lib.hid ⟨hcr, by rw [hsr, fewFrom2_end (by omega)]⟩
          replace hsr := Lib.hid hsr; replace hcr := Lib.hid hcr
          go_wp2_with fail
          go_meet
          exact hcut.out
    case rest =>
      obtain ⟨hck3, hst3⟩ := hcut
      obtain ⟨we, rfl⟩ : ∃ wo : World, wo = wc := ⟨_, rfl⟩
      replace hst3 := Lib.hid hst3; replace hck3 := Lib.hid hck3
      go_upto_block 8 with fail
      go_cut [] (fun wx => FewTurn4 x n (CkS w #[.string x.name, .slice mA x.messages.length mc, .slice eA x.enums.length ec, .slice cA x.methods.length cc]) wx)
      case first =>
        go_wp2
        go_loopw [9] (fun i wr => ∃ k : Nat, k ≤ x.methods.length ∧ k ≤ 20 ∧ i = .int .i64 k ∧ CkS w #[.string x.name, .slice mA x.messages.length mc, .slice eA x.enums.length ec, .slice cA x.methods.length cc] wr ∧ fewB x = fewFrom3 x k n) (fun i _ => 20 - (intOf i).toNat)
        case atStart => exact ⟨0, Nat.zero_le _, by omega, rfl, hck3.out, hst3.out⟩
        case round =>
          obtain ⟨k, hk, hk2, rfl, hcr, hsr⟩ := hrel
          have hs3 := blk_cell hcr.s 3
          simp only [List.getElem?_toArray, List.getElem?_cons_succ, List.getElem?_cons_zero] at hs3
          obtain ⟨wk, rfl⟩ : ∃ wo : World, wo = wr := ⟨_, rfl⟩
          by_cases hlt : k < x.methods.length
          · have hlt' : (k : Int) < (x.methods.length : Int) := by omega
            by_cases hk20 : k < 20
            · have hk20' : (k : Int) < 20 := by omega
              obtain ⟨g, o, c, hv, _, _⟩ := h3.out.form (by omega)
              injection hv with hv1 hv2 hv3
              subst hv1; subst hv3
              have hat : ∀ i v, i < 3 → (methodCells x.methods[k])[i]? = some v → wk.cell? ⟨g, o + k * 3 + i, none⟩ = some v := fun i v hi hv =>
                h3.out.at_ (by omega) hcr.below.block k i (by omega) ((flatMap_at methodCells 3 (fun _ => rfl) x.methods k hlt i hi).trans hv)
              have hmf := hf.out.methods x.methods[k] (List.getElem_mem hlt)
              rw [fewFrom3_step hlt hk20] at hsr
              generalize x.methods[k] = f at hat hsr hmf
              obtain ⟨fn, fi, fo⟩ := f
              have e0 := hat 0 _ (by decide) rfl
              have e1 := hat 1 _ (by decide) rfl
              have e2 := hat 2 _ (by decide) rfl
              simp only [Nat.add_zero] at e0
              have hz1 := hmf.name
              have hz2 := hmf.inp
              have hz3 := hmf.outp
              unfold maxLen at hz1 hz2 hz3
              simp only at hz1 hz2 hz3 hsr
              clear hat hmf
              by_cases ha : fn.size ≤ 200
              · have ha' : ¬ ((200 : Int) < (fn.size : Int)) := by omega
                by_cases hb : fi.size ≤ 200
                · have hb' : ¬ ((200 : Int) < (fi.size : Int)) := by omega
                  by_cases hc : fo.size ≤ 200
                  · have hc' : ¬ ((200 : Int) < (fo.size : Int)) := by omega
                    have hs4 : Hid (fewB x = fewFrom3 x (k + 1) n) := Lib.hid (by rw [hsr, fewC, decide_eq_true ha, decide_eq_true hb, decide_eq_true hc]; rfl)
                    replace hsr := Lib.hid hsr; replace hcr := Lib.hid hcr
                    go_wp2
                    go_roundw
                    case rel => exact ⟨k + 1, by omega, by omega, by go_num, hcr.out, hs4.out⟩
                    case measure => simp [intOf]; omega
                  · have hc' : ((200 : Int) < (fo.size : Int)) := by omega
                    have hs4 : Hid (fewB x = false) := Lib.hid (by rw [hsr, fewC, decide_eq_false hc]; simp)
                    replace hsr := Lib.hid hsr; replace hcr := Lib.hid hcr
                    go_wp2
                    go_ret
                    exact ⟨ret_bool hs4.out.symm, hcr.out.below⟩
                · have hb' : ((200 : Int) < (fi.size : Int)) := by omega
                  have hs4 : Hid (fewB x = false) := Lib.hid (by rw [hsr, fewC, decide_eq_false hb]; simp)
                  replace hsr := Lib.hid hsr; replace hcr := Lib.hid hcr
                  go_wp2
                  go_ret
                  exact ⟨ret_bool hs4.out.symm, hcr.out.below⟩
              · have ha' : ((200 : Int) < (fn.size : Int)) := by omega
                have hs4 : Hid (fewB x = false) := Lib.hid (by rw [hsr, fewC, decide_eq_false ha]; rfl)
                replace hsr := Lib.hid hsr; replace hcr := Lib.hid hcr
                go_wp2
                go_ret
                exact ⟨ret_bool hs4.out.symm, hcr.out.below⟩
            · have hk20' : ¬ (k : Int) < 20 := by omega
              have hcut : Hid (FewTurn4 x n (CkS w #[.string x.name, .slice mA x.messages.length mc, .slice eA x.enums.length ec, .slice cA x.methods.length cc]) wk) := Lib.hid ⟨hcr, by rw [hsr, fewFrom3_end (by omega)]⟩
              replace hsr := Lib.hid hsr; replace hcr := Lib.hid hcr
              go_wp2_with fail
              go_meet
              exact hcut.out
          · have hlt' : ¬ (k : Int) < (x.methods.length : Int) := by omega
            have hcut : Hid (FewTurn4 x n (CkS w #[.string x.name, .slice mA x.messages.length mc, .slice eA x.enums.length ec, .slice cA x.methods.length cc]) wk) := Lib.hid ⟨hcr, by rw [hsr, fewFrom3_end (by omega)]⟩
            replace hsr := Lib.hid hsr; replace hcr := Lib.hid hcr
            go_wp2_with fail
            go_meet
            exact hcut.out
      case rest =>
        obtain ⟨hck4, hst4⟩ := hcut
        have hs1 := blk_cell hck4.s 1
        have hs2 := blk_cell hck4.s 2
        have hs3 := blk_cell hck4.s 3
        simp only [List.getElem?_toArray, List.getElem?_cons_succ, List.getElem?_cons_zero] at hs1 hs2 hs3
        obtain ⟨wk, rfl⟩ : ∃ wo : World, wo = wc := ⟨_, rfl⟩
        have hend : fewB x = (decide (n < 3000) && (decide (x.messages.length ≤ 14) && (decide (x.enums.length ≤ 10) && decide (x.methods.length ≤ 10)))) := hst4
        replace hst4 := Lib.hid hst4; replace hck4 := Lib.hid hck4
        by_cases ha : n < 3000
        · have ha' : (n : Int) < 3000 := by omega
          by_cases hb : x.messages.length ≤ 14
          · have hb' : (x.messages.length : Int) ≤ 14 := by omega
            by_cases hc : x.enums.length ≤ 10
            · have hc' : (x.enums.length : Int) ≤ 10 := by omega
              by_cases hd : x.methods.length ≤ 10
              · have hd' : (x.methods.length : Int) ≤ 10 := by omega
                have hs5 : Hid (fewB x = true) := Lib.hid (by rw [hend, decide_eq_true ha, decide_eq_true hb, decide_eq_true hc, decide_eq_true hd]; rfl)
                replace hend := Lib.hid hend
                go_wp2
                go_ret
                exact ⟨ret_bool hs5.out.symm, hck4.out.below⟩
              · have hd' : ¬ (x.methods.length : Int) ≤ 10 := by omega
                have hs5 : Hid (fewB x = false) := Lib.hid (by rw [hend, decide_eq_false hd]; simp)
                replace hend := Lib.hid hend
                go_wp2
                go_ret
                exact ⟨ret_bool hs5.out.symm, hck4.out.below⟩
            · have hc' : ¬ (x.enums.length : Int) ≤ 10 := by omega
              have hs5 : Hid (fewB x = false) := Lib.hid (by rw [hend, decide_eq_false hc]; simp)
              replace hend := Lib.hid hend
              go_wp2
              go_ret
              exact ⟨ret_bool hs5.out.symm, hck4.out.below⟩
          · have hb' : ¬ (x.messages.length : Int) ≤ 14 := by omega
            have hs5 : Hid (fewB x = false) := Lib.hid (by rw [hend, decide_eq_false hb]; simp)
            replace hend := Lib.hid hend
            go_wp2
            go_ret
            exact ⟨ret_bool hs5.out.symm, hck4.out.below⟩
        · have ha' : ¬ (n : Int) < 3000 := by omega
          have hs5 : Hid (fewB x = false) := Lib.hid (by rw [hend, decide_eq_false ha]; rfl)
          replace hend := Lib.hid hend
          go_wp2
          go_ret
          exact ⟨ret_bool hs5.out.symm, hck4.out.below⟩

end Go.Proofs.YtkpgaccgcdoijaaGreatDoor

import Derived.Test.YtkpgaccgcdoijaaGreatDoorZLex
namespace Go.Proofs.YtkpgaccgcdoijaaGreatDoor
open Go.RowKit

/-! ### the parser in memory: block g; the tokens lie elsewhere, below N -/
def TokRow (N g : Nat) (w : World) (A : Option Addr) (l : List Tok) : Prop :=
  l ≠ [] → ∃ b o, A = some ⟨b, o, none⟩ ∧ b ≠ g ∧ b < N ∧ ∀ j v, (toksCells l)[j]? = some v → w.cell? ⟨b, o + j, none⟩ = some v
/-- The tables lie below. -/
structure Tops (g : Nat) : Prop where
  a : 2 < g
  b : 3 < g
  c : 0 < g
theorem Tabs.tops {w : World} (h : Tabs w) : Tops w.heap.size := by
  refine ⟨World.block_lt_of_cell? w _ (h.u8.1 0 (by omega)), World.block_lt_of_cell? w _ (h.u8.2 0 (by omega)).1, ?_⟩
  obtain ⟨g, hg, hlt⟩ : ∃ g, Tryz.prog.globalNamed "internal/strconv.uint64pow10" = some g ∧ g = 0 := ⟨_, by kernel_rfl, rfl⟩
  have hp : w.var? Tryz.prog "internal/strconv.uint64pow10" = _ := h.p10
  have h0 := (World.block_lt_of_cell? w _ (var?_cell hg hp 0))
  rw [← hlt]
  exact h0
theorem Tabs.same {w w' : World} (h : Tabs w) {g : Nat} (ht : Tops g) (hb : ∀ k, k < g → w'.heap[k]? = w.heap[k]?) : Tabs w' := by
  have hc : ∀ {a : Addr} {v : Value}, a.block < g → w.cell? a = some v → w'.cell? a = some v := fun h1 h2 => (World.cell?_of_block (w := w) (hb _ h1)).trans h2
  refine ⟨⟨fun c hc' => hc ht.a (h.u8.1 c hc'), fun i hi => ⟨hc ht.b (h.u8.2 i hi).1, hc ht.b (h.u8.2 i hi).2⟩⟩, ?_⟩
  obtain ⟨k, hk, hlt⟩ : ∃ k, Tryz.prog.globalNamed "internal/strconv.uint64pow10" = some k ∧ k = 0 := ⟨_, by kernel_rfl, rfl⟩
  have hp : w.var? Tryz.prog "internal/strconv.uint64pow10" = _ := h.p10
  show w'.var? Tryz.prog "internal/strconv.uint64pow10" = _
  rw [← hp]
  unfold World.var?
  rw [hk]
  simp only [Option.bind_some]
  rw [hb k (by rw [hlt]; exact ht.c)]
theorem Tabs.grown {w w' : World} {g : Nat} (h : Tabs w) (hg : w.grownBy w' (some g)) (ht : Tops g) (hgs : g ≤ w.heap.size) : Tabs w' :=
  h.same ht (fun k hk => hg.block k (by omega) (by simp; omega))

def PS (N g : Nat) (s : St) (w : World) : Prop :=
  (g < N ∧ Tops g) ∧ ∃ A c, w.heap[g]? = some (.cells #[.slice A s.l.length c, .bool s.bad] 110 (0, 0)) ∧ s.l.length ≤ c ∧ c ≤ maxLen ∧ TokRow N g w A s.l

theorem TokRow.kept {N g : Nat} {w w' : World} {A : Option Addr} {l : List Tok} (h : TokRow N g w A l) (hb : ∀ k, k < N → k ≠ g → w'.heap[k]? = w.heap[k]?) : TokRow N g w' A l := by
  intro hl
  obtain ⟨b, o, hA, hg, hN, hc⟩ := h hl
  exact ⟨b, o, hA, hg, hN, fun j v hj => (World.cell?_of_block (w := w) (hb b hN hg)).trans (hc j v hj)⟩
theorem PS.kept {N g : Nat} {s : St} {w w' : World} (h : PS N g s w) (hb : ∀ k, k < N → w'.heap[k]? = w.heap[k]?) : PS N g s w' := by
  obtain ⟨hg, A, c, hh, h1, h2, hr⟩ := h
  exact ⟨hg, A, c, (hb g hg.1).trans hh, h1, h2, hr.kept (fun k hk _ => hb k hk)⟩
theorem PS.below {N g : Nat} {s : St} {w w' : World} (h : PS N g s w) {B : Nat} (hN : N ≤ B) (hb : Below B w w') : PS N g s w' := h.kept (fun k hk => hb.block k (by omega))
theorem PS.alloc {N g : Nat} {s : St} {w : World} (h : PS N g s w) (hN : N ≤ w.heap.size) (o : Obj) : PS N g s (w.alloc o) := h.kept (fun k hk => Below.heap_alloc w o k (by omega))
theorem PS.drew {N g : Nat} {s : St} {w : World} (h : PS N g s w) : PS N g s w.drew := h.kept (fun k hk => rfl)
theorem PS.setCell {N g : Nat} {s : St} {w : World} (h : PS N g s w) {a : Addr} (ha : N ≤ a.block) (v : Value) : PS N g s (w.setCell a v) := h.kept (fun k hk => Below.heap_setCell w a v k (by omega))
theorem PS.cell0 {N g : Nat} {s : St} {w : World} (h : PS N g s w) : ∃ A c, w.cell? ⟨g, 0, none⟩ = some (.slice A s.l.length c) ∧ w.cell? ⟨g, 1, none⟩ = some (.bool s.bad) ∧ s.l.length ≤ c ∧ c ≤ maxLen ∧ TokRow N g w A s.l := by
  obtain ⟨hg, A, c, hh, h1, h2, hr⟩ := h
  exact ⟨A, c, by simp [World.cell?, hh], by simp [World.cell?, hh], h1, h2, hr⟩
theorem PS.unfrozen {N g : Nat} {s : St} {w : World} (h : PS N g s w) (o : Nat) : w.frozen? ⟨g, o, none⟩ = false := by
  obtain ⟨hg, A, c, hh, _⟩ := h
  simp [World.frozen?, hh]

theorem toks_cells {k : Tok} {r : List Tok} : toksCells (k :: r) = tokCells k ++ toksCells r := rfl
theorem TokRow.head {N g : Nat} {w : World} {A : Option Addr} {k : Tok} {r : List Tok} (h : TokRow N g w A (k :: r)) :
    ∃ b o, A = some ⟨b, o, none⟩ ∧ b ≠ g ∧ b < N ∧ w.cell? ⟨b, o, none⟩ = some (.int .i64 k.kind) ∧ w.cell? ⟨b, o + 1, none⟩ = some (.string k.text) ∧ w.cell? ⟨b, o + 2, none⟩ = some (.int .i64 k.pos) ∧ TokRow N g w (some ⟨b, o + 3, none⟩) r := by
  obtain ⟨b, o, hA, hg, hN, hc⟩ := h (by simp)
  refine ⟨b, o, hA, hg, hN, hc 0 _ (by simp [toks_cells, tokCells]), hc 1 _ (by simp [toks_cells, tokCells]), hc 2 _ (by simp [toks_cells, tokCells]), ?_⟩
  intro _
  refine ⟨b, o + 3, rfl, hg, hN, fun j v hj => ?_⟩
  have := hc (3 + j) v (by rw [toks_cells, List.getElem?_append_right (by simp [tokCells])]; simpa [tokCells] using hj)
  rwa [← Nat.add_assoc] at this

set_option maxHeartbeats 1000000 in
theorem looks_calls (N g : Nat) (t : ByteArray) (s : St) (w : World) (h : PS N g s w) :
    Calls Tryz.prog 143 #[.pointer (some ⟨g, 0, none⟩), .string t] w fun e w' => e = .returned (.bool (looksB t s)) ∧ w' = w := by
  obtain ⟨A, c, h0, h1, hlc, hcm, hr⟩ := h.cell0
  have hd : looksB t s = (!s.bad && match s.l with | k :: _ => k.text.toList == t.toList | [] => false) := rfl
  obtain ⟨l, bad⟩ := s
  simp only at h0 h1 hlc hr hd
  cases bad
  · cases l with
    | nil =>
      replace hd := Lib.hid hd
      clear hr h hlc
      simp only [List.length_nil] at h0
      go_enter Tryz.func143, Tryz.ntmps143
      go_wp2
      go_ret
      exact ⟨ret_bool (by rw [hd.out]; rfl), rfl⟩
    | cons k r =>
      obtain ⟨b, o, rfl, hbg, hbN, c0, c1, c2, _⟩ := hr.head
      replace hd := Lib.hid hd
      clear hr h
      simp only [List.length_cons] at h0 hlc
      have hl0 : (0 : Int) < ((r.length : Nat) : Int) + 1 := by omega
      cases hq : (k.text.toList == t.toList)
      · have hfin : Hid (looksB t ⟨k :: r, false⟩ = false) := Lib.hid (by rw [hd.out]; simpa using hq)
        go_enter Tryz.func143, Tryz.ntmps143
        go_wp2
        go_ret
        exact ⟨ret_bool hfin.out.symm, rfl⟩
      · have hfin : Hid (looksB t ⟨k :: r, false⟩ = true) := Lib.hid (by rw [hd.out]; simpa using hq)
        go_enter Tryz.func143, Tryz.ntmps143
        go_wp2
        go_ret
        exact ⟨ret_bool hfin.out.symm, rfl⟩
  · replace hd := Lib.hid hd
    clear hr h hlc
    go_enter Tryz.func143, Tryz.ntmps143
    go_wp2
    go_ret
    exact ⟨ret_bool (by rw [hd.out]; rfl), rfl⟩

theorem setCell_heap {w : World} {g : Nat} {cs : Array Value} {t : TypeId} {fr : Nat × Nat} (h : w.heap[g]? = some (.cells cs t fr)) (i : Nat) (v : Value) :
    (w.setCell ⟨g, i, none⟩ v).heap[g]? = some (.cells (cs.setIfInBounds i v) t fr) := by
  simp only [World.setCell, Array.getElem?_modify]
  rw [if_pos trivial, h]
  rfl
theorem setCell_grown (w : World) (g i : Nat) (v : Value) : w.grownBy (w.setCell ⟨g, i, none⟩ v) (some g) :=
  ⟨rfl, rfl, rfl, by simp [World.setCell], fun k hk hne => Below.heap_setCell _ _ _ _ (fun e => hne (by rw [e]))⟩

/-- The parser's list is cut by one. -/
theorem PS.cut {N g : Nat} {k : Tok} {r : List Tok} {bad : Bool} {w : World} {A : Option Addr} {c : Nat} (h : PS N g ⟨k :: r, bad⟩ w)
    (h0 : w.cell? ⟨g, 0, none⟩ = some (.slice A (r.length + 1) c)) {b o : Nat} (hA : A = some ⟨b, o, none⟩) {A' : Option Addr} (hA' : A' = some ⟨b, o + 3, none⟩ ∨ c = 1) :
    PS N g ⟨r, bad⟩ (w.setCell ⟨g, 0, none⟩ (.slice A' r.length (c - 1))) := by
  obtain ⟨hg, A1, c1, hh, h1, h2, hr⟩ := h
  have e0 : w.cell? ⟨g, 0, none⟩ = some (.slice A1 (k :: r).length c1) := by simp [World.cell?, hh]
  rw [h0] at e0
  have e1 := Option.some.inj e0
  injection e1 with q1 q2 q3
  subst q1 q3
  simp only [List.length_cons] at h1
  refine ⟨hg, A', c - 1, ?_, by simp only; omega, by omega, ?_⟩
  · rw [setCell_heap hh]; rfl
  · have hr' : TokRow N g w A (k :: r) := hr
    obtain ⟨b', o', hb, hbg, hbN, _, _, _, htl⟩ := hr'.head
    rw [hA] at hb
    injection hb with hb
    injection hb with hb1 hb2
    subst hb1 hb2
    rcases hA' with rfl | rfl
    · exact TokRow.kept htl (fun j hj hne => Below.heap_setCell _ _ _ _ hne)
    · intro hne
      have h3 : 0 < r.length := List.length_pos_iff.2 hne
      omega

set_option maxHeartbeats 1000000 in
theorem takes_calls (N g : Nat) (t : ByteArray) (s : St) (w : World) (h : PS N g s w) :
    Calls Tryz.prog 108 #[.pointer (some ⟨g, 0, none⟩), .string t] w fun e w' => e = .returned (.bool (looksB t s)) ∧ PS N g (takesS t s) w' ∧ w.grownBy w' (some g) := by
  have cL := fun W hW => looks_calls N g t s W hW
  have hts : takesS t s = if looksB t s then ⟨s.l.tail, s.bad⟩ else s := rfl
  have hlk : looksB t s = true → s.l ≠ [] := by intro h1 h2; simp [looksB, h2] at h1
  generalize looksB t s = q at cL hts hlk
  replace cL := Lib.hid cL
  cases q
  · have hts' : Hid (takesS t s = s) := Lib.hid hts
    have h' := Lib.hid h
    clear h hts hlk
    go_enter Tryz.func108, Tryz.ntmps108
    go_wp2_with fail
    refine (cL.out _ h'.out).mono ?_; rintro e w1 ⟨rfl, rfl⟩
    go_wp2
    go_ret
    rw [hts'.out]
    exact ⟨rfl, h'.out, World.grownBy.refl _ _⟩
  · obtain ⟨l, bad⟩ := s
    cases l with
    | nil => exact absurd rfl (hlk rfl)
    | cons k r =>
    have hts' : Hid (takesS t ⟨k :: r, bad⟩ = ⟨r, bad⟩) := Lib.hid hts
    clear hts hlk
    obtain ⟨A, c, h0, h1, hlc, hcm, hr⟩ := h.cell0
    obtain ⟨b, o, rfl, hbg, hbN, c0, c1, c2, _⟩ := hr.head
    simp only [List.length_cons] at h0 hlc
    have hcm' := hcm
    unfold maxLen at hcm'
    have h' := Lib.hid h
    have hf := h.unfrozen 0
    have h0' := Lib.hid h0
    clear hr h
    by_cases hc1 : c = 1
    · have hr0 : r.length = 0 := by omega
      have hr0' : r = [] := List.length_eq_zero_iff.1 hr0
      subst hr0' hc1
      go_enter Tryz.func108, Tryz.ntmps108
      go_wp2_with fail
      refine (cL.out _ h'.out).mono ?_; rintro e w1 ⟨rfl, rfl⟩
      go_wp2
      go_ret
      rw [hts'.out]
      exact ⟨rfl, h'.out.cut h0'.out rfl (.inr rfl), setCell_grown _ _ _ _⟩
    · go_enter Tryz.func108, Tryz.ntmps108
      go_wp2_with fail
      refine (cL.out _ h'.out).mono ?_; rintro e w1 ⟨rfl, rfl⟩
      go_wp2
      go_ret
      rw [hts'.out]
      exact ⟨rfl, h'.out.cut h0'.out rfl (.inl rfl), setCell_grown _ _ _ _⟩


theorem PS.setBad {N g : Nat} {s : St} {w : World} (h : PS N g s w) : PS N g ⟨s.l, true⟩ (w.setCell ⟨g, 1, none⟩ (.bool true)) := by
  obtain ⟨hg, A, c, hh, h1, h2, hr⟩ := h
  refine ⟨hg, A, c, ?_, h1, h2, TokRow.kept hr (fun j hj hne => Below.heap_setCell _ _ _ _ hne)⟩
  rw [setCell_heap hh]; rfl
theorem grown_set {w w1 : World} {row : Option Nat} (h : w.grownBy w1 row) {a : Addr} (ha : w.heap.size ≤ a.block) (v : Value) : w.grownBy (w1.setCell a v) row :=
  ⟨h.os, h.tape, h.output, by simpa [World.setCell] using h.size, fun k hk hne => (Below.heap_setCell _ _ _ _ (by omega)).trans (h.block k hk hne)⟩
theorem grown_trans {a b c : World} {row : Option Nat} (h : a.grownBy b row) (k : b.grownBy c row) : a.grownBy c row := World.grownBy.trans h k

/-- name's and number's states after the test failed. -/
theorem nameS_no {s : St} (h : nameOk s = false) : nameS s = ⟨s.l, true⟩ ∧ nameV s = noText := by simp [nameS, nameV, h]
theorem nameS_yes {k : Tok} {r : List Tok} {bad : Bool} (h : nameOk ⟨k :: r, bad⟩ = true) : nameS ⟨k :: r, bad⟩ = ⟨r, bad⟩ ∧ nameV ⟨k :: r, bad⟩ = k.text := by simp [nameS, nameV, h]

set_option maxHeartbeats 2000000 in
theorem pname_calls (N g : Nat) (s : St) (w : World) (h : PS N g s w) (hT : Tabs w) (hN : N ≤ w.heap.size) (hz : ∀ k ∈ s.l, k.text.size ≤ maxLen) :
    Calls Tryz.prog 107 #[.pointer (some ⟨g, 0, none⟩)] w fun e w' => e = .returned (.string (nameV s)) ∧ PS N g (nameS s) w' ∧ w.grownBy w' (some g) := by
  obtain ⟨A, c, h0, h1, hlc, hcm, hr⟩ := h.cell0
  have hf := h.unfrozen 0
  have hf1 := h.unfrozen 1
  have hcm' := hcm
  unfold maxLen at hcm'
  obtain ⟨l, bad⟩ := s
  simp only at h0 h1 hlc hr hz
  have h' := Lib.hid h
  have h0' := Lib.hid h0
  have hok : nameOk ⟨l, bad⟩ = (!bad && match (generalizing := false) l with | k :: _ => decide (k.kind = 1) && nameP k.text | [] => false) := rfl
  clear h
  cases bad
  · cases l with
    | nil =>
      obtain ⟨e1, e2⟩ := nameS_no (s := ⟨[], false⟩) (by rw [hok]; rfl)
      rw [e1, e2]
      clear hr hok e1 e2 hlc hz
      simp only [List.length_nil] at h0
      go_enter Tryz.func107, Tryz.ntmps107
      go_wp2
      go_ret
      exact ⟨rfl, h'.out.setBad, setCell_grown _ _ _ _⟩
    | cons k r =>
      obtain ⟨b, o, rfl, hbg, hbN, c0, c1, c2, _⟩ := hr.head
      simp only [List.length_cons] at h0 hlc
      have hne0 : ((((r.length : Nat) : Int) + 1) == 0) = false := by simp; omega
      have hl0 : (0 : Int) < ((r.length : Nat) : Int) + 1 := by omega
      by_cases hk : k.kind = 1
      · have bk : ((k.kind : Int) != 1) = false := by simp [hk]
        have cN := fun W hTW => name_calls k.text W hTW (hz k (by simp))
        have hok1 : nameOk ⟨k :: r, false⟩ = nameP k.text := by rw [hok]; simp [hk]
        clear hr hok
        generalize nameP k.text = q at cN hok1
        replace cN := Lib.hid cN
        clear hk
        cases q
        · obtain ⟨e1, e2⟩ := nameS_no hok1
          rw [e1, e2]
          clear e1 e2 hok1 hz
          go_enter Tryz.func107, Tryz.ntmps107
          go_wp2_with fail
          refine (cN.out _ hT).mono ?_; rintro e w1 ⟨rfl, hb⟩
          have h1' := Lib.hid (h'.out.below hN hb)
          have hg1 := (h1'.out).unfrozen 1
          have h11 : w1.cell? ⟨g, 1, none⟩ = _ := (hb.cell (p := ⟨g, 1, none⟩) (by have := h'.out.1.1; simp only; omega)).trans h1
          go_wp2
          go_ret
          exact ⟨rfl, h1'.out.setBad, grown_trans (grown_of_belowB hb _) (setCell_grown _ _ _ _)⟩
        · obtain ⟨e1, e2⟩ := nameS_yes hok1
          rw [e1, e2]
          clear e1 e2 hok1 hz
          go_enter Tryz.func107, Tryz.ntmps107
          go_wp2_with fail
          refine (cN.out _ hT).mono ?_; rintro e w1 ⟨rfl, hb⟩
          have h1' := h'.out.below hN hb
          have hbs : b < w.heap.size := by omega
          have hgs : g < w.heap.size := by have := h'.out.1.1; omega
          have h01 : w1.cell? ⟨g, 0, none⟩ = _ := (hb.cell (p := ⟨g, 0, none⟩) hgs).trans h0
          have c11 : w1.cell? ⟨b, o + 1, none⟩ = _ := (hb.cell (p := ⟨b, o + 1, none⟩) hbs).trans c1
          have hg1 := h1'.unfrozen 0
          replace h1' := Lib.hid h1'
          have h01' := Lib.hid h01
          by_cases hc1 : c = 1
          · have hr0' : r = [] := List.length_eq_zero_iff.1 (by omega)
            subst hr0' hc1
            go_wp2
            go_ret
            exact ⟨rfl, h1'.out.cut h01'.out rfl (.inr rfl), grown_trans (grown_of_belowB hb _) (setCell_grown _ _ _ _)⟩
          · go_wp2
            go_ret
            exact ⟨rfl, h1'.out.cut h01'.out rfl (.inl rfl), grown_trans (grown_of_belowB hb _) (setCell_grown _ _ _ _)⟩
      · have bk : ((k.kind : Int) != 1) = true := by simp; omega
        obtain ⟨e1, e2⟩ := nameS_no (s := ⟨k :: r, false⟩) (by rw [hok]; simp [hk])
        rw [e1, e2]
        clear hr hok e1 e2 hz hk
        go_enter Tryz.func107, Tryz.ntmps107
        go_wp2
        go_ret
        exact ⟨rfl, h'.out.setBad, setCell_grown _ _ _ _⟩
  · obtain ⟨e1, e2⟩ := nameS_no (s := ⟨l, true⟩) (by rw [hok]; rfl)
    rw [e1, e2]
    clear hr hok e1 e2 hlc hz
    go_enter Tryz.func107, Tryz.ntmps107
    go_wp2
    go_ret
    exact ⟨rfl, h'.out.setBad, setCell_grown _ _ _ _⟩


theorem numberS_no {s : St} (h : numberO s = none) : numberS s = ⟨s.l, true⟩ ∧ numberV s = 0 := by simp [numberS, numberV, numN, h]
theorem numberS_yes {k : Tok} {r : List Tok} {bad : Bool} {n : Nat} (h : numberO ⟨k :: r, bad⟩ = some n) : numberS ⟨k :: r, bad⟩ = ⟨r, bad⟩ ∧ numberV ⟨k :: r, bad⟩ = n := by simp [numberS, numberV, numN, h]

set_option maxHeartbeats 2000000 in
theorem pnumber_calls (N g : Nat) (s : St) (w : World) (h : PS N g s w) (hN : N ≤ w.heap.size) (hz : ∀ k ∈ s.l, k.text.size ≤ maxLen) :
    Calls Tryz.prog 144 #[.pointer (some ⟨g, 0, none⟩)] w fun e w' => e = .returned (.int .i64 (numberV s)) ∧ PS N g (numberS s) w' ∧ w.grownBy w' (some g) := by
  obtain ⟨A, c, h0, h1, hlc, hcm, hr⟩ := h.cell0
  have hf := h.unfrozen 0
  have hf1 := h.unfrozen 1
  have hcm' := hcm
  unfold maxLen at hcm'
  obtain ⟨l, bad⟩ := s
  simp only at h0 h1 hlc hr hz
  have h' := Lib.hid h
  have h0' := Lib.hid h0
  have hok : numberO ⟨l, bad⟩ = if bad then none else match (generalizing := false) l with | k :: _ => if k.kind = 2 then numP k.text else none | [] => none := rfl
  clear h
  cases bad
  · cases l with
    | nil =>
      obtain ⟨e1, e2⟩ := numberS_no (s := ⟨[], false⟩) (by rw [hok]; rfl)
      rw [e1, e2]
      clear hr hok e1 e2 hlc hz
      simp only [List.length_nil] at h0
      go_enter Tryz.func144, Tryz.ntmps144
      go_wp2
      go_ret
      exact ⟨rfl, h'.out.setBad, setCell_grown _ _ _ _⟩
    | cons k r =>
      obtain ⟨b, o, rfl, hbg, hbN, c0, c1, c2, _⟩ := hr.head
      simp only [List.length_cons] at h0 hlc
      have hne0 : ((((r.length : Nat) : Int) + 1) == 0) = false := by simp; omega
      have hl0 : (0 : Int) < ((r.length : Nat) : Int) + 1 := by omega
      by_cases hk : k.kind = 2
      · have bk : ((k.kind : Int) != 2) = false := by simp [hk]
        have cN := fun W => number_calls k.text W (hz k (by simp))
        have hok1 : numberO ⟨k :: r, false⟩ = numP k.text := by rw [hok]; simp [hk]
        clear hr hok
        generalize numP k.text = q at cN hok1
        clear hk
        cases q with
        | none =>
          obtain ⟨e1, e2⟩ := numberS_no hok1
          rw [e1, e2]
          clear e1 e2 hok1 hz
          simp only [numN, Option.getD_none, Option.isSome_none] at cN
          replace cN := Lib.hid cN
          go_enter Tryz.func144, Tryz.ntmps144
          go_wp2_with fail
          refine (cN.out _).mono ?_; rintro e w1 ⟨rfl, hb⟩
          have h1' := Lib.hid (h'.out.below hN hb)
          have hg1 := (h1'.out).unfrozen 1
          have h11 : w1.cell? ⟨g, 1, none⟩ = _ := (hb.cell (p := ⟨g, 1, none⟩) (by have := h'.out.1.1; simp only; omega)).trans h1
          go_wp2
          go_ret
          exact ⟨rfl, h1'.out.setBad, grown_trans (grown_of_belowB hb _) (setCell_grown _ _ _ _)⟩
        | some n =>
          obtain ⟨e1, e2⟩ := numberS_yes hok1
          rw [e1, e2]
          clear e1 e2 hok1 hz
          simp only [numN, Option.getD_some, Option.isSome_some] at cN
          replace cN := Lib.hid cN
          go_enter Tryz.func144, Tryz.ntmps144
          go_wp2_with fail
          refine (cN.out _).mono ?_; rintro e w1 ⟨rfl, hb⟩
          have h1' := h'.out.below hN hb
          have hbs : b < w.heap.size := by omega
          have hgs : g < w.heap.size := by have := h'.out.1.1; omega
          have h01 : w1.cell? ⟨g, 0, none⟩ = _ := (hb.cell (p := ⟨g, 0, none⟩) hgs).trans h0
          have c11 : w1.cell? ⟨b, o + 1, none⟩ = _ := (hb.cell (p := ⟨b, o + 1, none⟩) hbs).trans c1
          have hg1 := h1'.unfrozen 0
          replace h1' := Lib.hid h1'
          have h01' := Lib.hid h01
          by_cases hc1 : c = 1
          · have hr0' : r = [] := List.length_eq_zero_iff.1 (by omega)
            subst hr0' hc1
            go_wp2
            go_ret
            exact ⟨rfl, h1'.out.cut h01'.out rfl (.inr rfl), grown_trans (grown_of_belowB hb _) (setCell_grown _ _ _ _)⟩
          · go_wp2
            go_ret
            exact ⟨rfl, h1'.out.cut h01'.out rfl (.inl rfl), grown_trans (grown_of_belowB hb _) (setCell_grown _ _ _ _)⟩
      · have bk : ((k.kind : Int) != 2) = true := by simp; omega
        obtain ⟨e1, e2⟩ := numberS_no (s := ⟨k :: r, false⟩) (by rw [hok]; simp [hk])
        rw [e1, e2]
        clear hr hok e1 e2 hz hk
        go_enter Tryz.func144, Tryz.ntmps144
        go_wp2
        go_ret
        exact ⟨rfl, h'.out.setBad, setCell_grown _ _ _ _⟩
  · obtain ⟨e1, e2⟩ := numberS_no (s := ⟨l, true⟩) (by rw [hok]; rfl)
    rw [e1, e2]
    clear hr hok e1 e2 hlc hz
    go_enter Tryz.func144, Tryz.ntmps144
    go_wp2
    go_ret
    exact ⟨rfl, h'.out.setBad, setCell_grown _ _ _ _⟩

theorem needS_eq (t : ByteArray) (s : St) : needS t s = if looksB t s then takesS t s else ⟨(takesS t s).l, true⟩ := by
  unfold needS takesS
  split <;> rfl

/-- needs: the texts lie in block b. -/
theorem needs_calls (N g : Nat) (ts : List ByteArray) (b : Nat) (s : St) (w : World) (h : PS N g s w) (hN : N ≤ w.heap.size) (hbN : b < w.heap.size) (hbg : b ≠ g) (hl : ts.length ≤ 100)
    (hc : ∀ j t, ts[j]? = some t → w.cell? ⟨b, j, none⟩ = some (.string t)) :
    Calls Tryz.prog 106 #[.pointer (some ⟨g, 0, none⟩), .slice (some ⟨b, 0, none⟩) ts.length ts.length] w fun e w' => (∃ v, e = .returned v) ∧ PS N g (needsS ts s) w' ∧ w.grownBy w' (some g) := by
  have h' := Lib.hid h
  have hc' := Lib.hid hc
  clear h hc
  go_enter Tryz.func106, Tryz.ntmps106
  go_wp2
  go_loopw [8] (fun i wr => ∃ (k : Nat) (st : St), k ≤ ts.length ∧ i = .int .i64 k ∧ PS N g st wr ∧ w.grownBy wr (some g) ∧ needsS (ts.drop k) st = needsS ts s) (fun i _ => ts.length - (intOf i).toNat)
  case atStart => exact ⟨0, s, Nat.zero_le _, rfl, h'.out, World.grownBy.refl _ _, by simp⟩
  case round =>
    obtain ⟨k, st, hk, rfl, hps, hgr, hacc⟩ := hrel
    replace hacc := Lib.hid hacc
    by_cases hlt : k < ts.length
    · have hcell : wr.cell? ⟨b, k, none⟩ = some (.string ts[k]) := hgr.cell (hc'.out k _ (List.getElem?_eq_getElem hlt)) (by simpa using hbg)
      have hst : Hid (needsS (ts.drop (k + 1)) (needS ts[k] st) = needsS ts s) := by
        refine Lib.hid ?_
        rw [← hacc.out, List.drop_eq_getElem_cons hlt]; rfl
      generalize ts[k] = t at hcell hst
      have cT := fun W hW => takes_calls N g t st W hW
      have hne := needS_eq t st
      generalize looksB t st = q at cT hne
      replace cT := Lib.hid cT
      replace hne := Lib.hid hne
      have hps' := Lib.hid hps
      clear hps
      cases q
      · go_wp2_with fail
        refine (cT.out _ hps'.out).mono ?_; rintro e w1 ⟨rfl, hp1, hg1⟩
        obtain ⟨A1, c1, h01, h11, _⟩ := hp1.cell0
        have hf11 := hp1.unfrozen 1
        replace hp1 := Lib.hid hp1
        clear h01
        go_wp2
        go_roundw
        case rel => exact ⟨k + 1, _, by omega, by go_num, hp1.out.setBad, grown_trans (grown_trans hgr hg1) (setCell_grown _ _ _ _), by rw [← hst.out, hne.out]; rfl⟩
        case measure => simp [intOf]; omega
      · go_wp2_with fail
        refine (cT.out _ hps'.out).mono ?_; rintro e w1 ⟨rfl, hp1, hg1⟩
        replace hp1 := Lib.hid hp1
        go_wp2
        go_roundw
        case rel => exact ⟨k + 1, _, by omega, by go_num, hp1.out, grown_trans hgr hg1, by rw [← hst.out, hne.out]; rfl⟩
        case measure => simp [intOf]; omega
    · have hke : ts.drop k = [] := List.drop_eq_nil_of_le (by omega)
      have hfin : needsS ts s = st := by rw [← hacc.out, hke]; rfl
      replace hfin := Lib.hid hfin
      go_wp2
      go_end0
      exact ⟨⟨_, rfl⟩, by rw [hfin.out]; exact hps, hgr⟩


end Go.Proofs.YtkpgaccgcdoijaaGreatDoor

namespace Go.Proofs.YtkpgaccgcdoijaaGreatDoor
open Go.RowKit

def St.Small (s : St) : Prop := ∀ k ∈ s.l, k.text.size ≤ maxLen
theorem St.Small.takes {s : St} (h : s.Small) (t : ByteArray) : (takesS t s).Small := by
  unfold takesS; split
  · exact fun k hk => h k (List.mem_of_mem_tail hk)
  · exact h

theorem kindAt (k : Nat) (h : k < 5) : ∃ t, kindWords[k]? = some t ∧ ∀ W, (Instr.index 199 (.agg #[.string ⟨#[105, 110, 116, 51, 50]⟩, .string ⟨#[105, 110, 116, 54, 52]⟩, .string ⟨#[98, 111, 111, 108]⟩, .string ⟨#[116, 101, 120, 116]⟩, .string ⟨#[98, 121, 116, 101, 115]⟩]) (.int .i64 k)).run Tryz.prog W = .ok (.string t) W := by
  match k, h with
  | 0, _ => exact ⟨_, rfl, fun _ => by kernel_rfl⟩
  | 1, _ => exact ⟨_, rfl, fun _ => by kernel_rfl⟩
  | 2, _ => exact ⟨_, rfl, fun _ => by kernel_rfl⟩
  | 3, _ => exact ⟨_, rfl, fun _ => by kernel_rfl⟩
  | 4, _ => exact ⟨_, rfl, fun _ => by kernel_rfl⟩

set_option maxHeartbeats 2000000 in
theorem kind_calls (N g : Nat) (s : St) (w : World) (h : PS N g s w) (hT : Tabs w) (hN : N ≤ w.heap.size) (hz : s.Small) :
    Calls Tryz.prog 162 #[.pointer (some ⟨g, 0, none⟩)] w fun e w' => e = .returned (.agg #[.int .i64 (kindQ s).1, .string (kindQ s).2.1]) ∧ PS N g (kindQ s).2.2 w' ∧ w.grownBy w' (some g) := by
  have hgN := h.1.1
  have hgT := h.1.2
  have hq : kindQ s = kindFrom kindWords 1 s := rfl
  have h' := Lib.hid h
  replace hq := Lib.hid hq
  clear h
  go_enter Tryz.func162, Tryz.ntmps162
  go_wp2
  go_loopw [6] (fun i wr => ∃ (k : Nat), k ≤ 5 ∧ i = .int .i64 k ∧ PS N g s wr ∧ w.grownBy wr (some g) ∧ w.heap.size < wr.heap.size ∧ wr.heap[w.heap.size]? = some (.cells #[.int .i64 0, .string noText] 42 (0, 0)) ∧ kindFrom (kindWords.drop k) (1 + k) s = kindQ s) (fun i _ => 5 - (intOf i).toNat)
  case atStart =>
    exact ⟨0, by omega, rfl, h'.out.alloc hN _, World.grownBy_alloc _ _ _, by simp, heap_alloc_new _ _, by rw [hq.out]; rfl⟩
  case round =>
    obtain ⟨k, hk, rfl, hps, hgr, hsz, hblk, hacc⟩ := hrel
    replace hacc := Lib.hid hacc
    have hwg : w.heap.size ≠ g := by omega
    replace hps := Lib.hid hps
    have hTr := Lib.hid (hT.grown hgr hgT (by omega))
    by_cases hlt : k < 5
    · obtain ⟨t, ht, hix⟩ := kindAt k hlt
      have hlt' : (k : Int) < 5 := by omega
      have hst : Hid (kindQ s = if looksB t s then (1 + (k : Int), noText, takesS t s) else kindFrom (kindWords.drop (k + 1)) (1 + k + 1) s) := by
        refine Lib.hid ?_
        rw [← hacc.out]
        have hkl : k < kindWords.length := by simpa [kindWords] using hlt
        rw [List.drop_eq_getElem_cons hkl]
        rw [List.getElem?_eq_getElem hkl] at ht
        rw [Option.some.inj ht]
        rfl
      have cT := fun W hW => takes_calls N g t s W hW
      have hts : looksB t s = false → takesS t s = s := fun hh => by simp [takesS, hh]
      generalize looksB t s = q at cT hst hts
      replace cT := Lib.hid cT
      clear ht
      cases q
      · have hfin : Hid (kindFrom (kindWords.drop (k + 1)) (1 + ((k + 1 : Nat) : Int)) s = kindQ s) := by
          refine Lib.hid ?_; rw [hst.out]; simp only [Bool.false_eq_true, if_false]; congr 1
        have hts' := Lib.hid (hts rfl)
        clear hts
        go_wp2_with fail
        refine (cT.out _ hps.out).mono ?_; rintro e w1 ⟨rfl, hp1, hg1⟩
        rw [hts'.out] at hp1
        replace hp1 := Lib.hid hp1
        have hblk1 : w1.heap[w.heap.size]? = _ := (hg1.block _ hsz (by simpa using hwg)).trans hblk
        have hsz1 : w.heap.size < w1.heap.size := Nat.lt_of_lt_of_le hsz hg1.size
        go_wp2
        go_roundw
        case rel => exact ⟨k + 1, by omega, by go_num, hp1.out, grown_trans hgr hg1, hsz1, hblk1, hfin.out⟩
        case measure => simp [intOf]; omega
      · have hfin : Hid (kindQ s = (1 + (k : Int), noText, takesS t s)) := by
          refine Lib.hid ?_; rw [hst.out]; rfl
        clear hts
        go_wp2_with fail
        refine (cT.out _ hps.out).mono ?_; rintro e w1 ⟨rfl, hp1, hg1⟩
        replace hp1 := Lib.hid hp1
        have hblk1 : w1.heap[w.heap.size]? = _ := (hg1.block _ hsz (by simpa using hwg)).trans hblk
        have hc0 : w1.cell? ⟨w.heap.size, 0, none⟩ = some (.int .i64 0) := by simp [World.cell?, hblk1]
        have hc1 : w1.cell? ⟨w.heap.size, 1, none⟩ = some (.string noText) := by simp [World.cell?, hblk1]
        have hf0 : w1.frozen? ⟨w.heap.size, 0, none⟩ = false := by simp [World.frozen?, hblk1]
        have hf1 : w1.frozen? ⟨w.heap.size, 1, none⟩ = false := by simp [World.frozen?, hblk1]
        go_wp2
        refine bodyPost_ret (v := .agg #[.int .i64 (1 + (k : Int)), .string noText]) (by simp [results, Tryz.results162, go_sem, *]; rfl) rfl ?_
        rw [hfin.out]
        exact ⟨rfl, (hp1.out.setCell (by simpa using hN) _).setCell (by simpa using hN) _, grown_set (grown_set (grown_trans hgr hg1) (Nat.le_refl _) _) (Nat.le_refl _) _⟩
    · have hk5 : k = 5 := by omega
      subst hk5
      have hfin : Hid (kindQ s = (7, nameV s, nameS s)) := by
        refine Lib.hid ?_; rw [← hacc.out]; rfl
      have hNr : N ≤ wr.heap.size := by omega
      go_wp2_with fail
      refine (pname_calls N g s _ hps.out hTr.out hNr hz).mono ?_; rintro e w1 ⟨rfl, hp1, hg1⟩
      replace hp1 := Lib.hid hp1
      have hblk1 : w1.heap[w.heap.size]? = _ := (hg1.block _ hsz (by simpa using hwg)).trans hblk
      have hc0 : w1.cell? ⟨w.heap.size, 0, none⟩ = some (.int .i64 0) := by simp [World.cell?, hblk1]
      have hc1 : w1.cell? ⟨w.heap.size, 1, none⟩ = some (.string noText) := by simp [World.cell?, hblk1]
      have hf0 : w1.frozen? ⟨w.heap.size, 0, none⟩ = false := by simp [World.frozen?, hblk1]
      have hf1 : w1.frozen? ⟨w.heap.size, 1, none⟩ = false := by simp [World.frozen?, hblk1]
      go_wp2
      refine bodyPost_ret (v := .agg #[.int .i64 7, .string (nameV s)]) (by simp [results, Tryz.results162, go_sem, *]) rfl ?_
      rw [hfin.out]
      exact ⟨rfl, (hp1.out.setCell (by simpa using hN) _).setCell (by simpa using hN) _, grown_set (grown_set (grown_trans hgr hg1) (Nat.le_refl _) _) (Nat.le_refl _) _⟩

/-! ### small texts stay small -/
theorem St.Small.need {s : St} (h : s.Small) (t : ByteArray) : (needS t s).Small := by
  unfold needS; split
  · exact fun k hk => h k (List.mem_of_mem_tail hk)
  · exact h
theorem St.Small.needs {s : St} (h : s.Small) (ts : List ByteArray) : (needsS ts s).Small := by
  induction ts generalizing s with
  | nil => exact h
  | cons t r ih => exact ih (h.need t)
theorem St.Small.name {s : St} (h : s.Small) : (nameS s).Small := by
  unfold nameS; split
  · exact fun k hk => h k (List.mem_of_mem_tail hk)
  · exact h
theorem St.Small.number {s : St} (h : s.Small) : (numberS s).Small := by
  unfold numberS; split
  · exact fun k hk => h k (List.mem_of_mem_tail hk)
  · exact h
theorem St.Small.kind {s : St} (h : s.Small) : (kindQ s).2.2.Small := by
  unfold kindQ
  generalize kindWords = l
  generalize (1 : Int) = i
  induction l generalizing i with
  | nil => exact h.name
  | cons t r ih =>
    simp only [kindFrom]
    split
    · exact h.takes t
    · exact ih _
theorem St.Small.label {s : St} (h : s.Small) : (labelS s).Small := by
  unfold labelS; split <;> exact h.takes _
theorem St.Small.field {s : St} (h : s.Small) : (fieldS s).Small := ((h.label.kind.name.needs _).number).needs _
theorem St.Small.named {s : St} (h : s.Small) : (namedS s).Small := ((h.name.needs _).number).needs _
theorem St.Small.comma {s : St} (h : s.Small) (k : Nat) (rs : List Int) : (commaFrom k s rs).1.Small := by
  induction k generalizing s rs with
  | zero => exact h
  | succ k ih =>
    simp only [commaFrom]
    split
    · exact ih (h.takes _).number _
    · exact h

end Go.Proofs.YtkpgaccgcdoijaaGreatDoor

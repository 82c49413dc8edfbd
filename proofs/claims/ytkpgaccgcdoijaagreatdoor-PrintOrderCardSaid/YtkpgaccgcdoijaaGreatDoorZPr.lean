import Derived.Test.YtkpgaccgcdoijaaGreatDoorZChk
namespace Go.Proofs.YtkpgaccgcdoijaaGreatDoor
open Go.RowKit

def w_optB : ByteArray := ⟨#[111, 112, 116, 105, 111, 110, 97, 108, 32]⟩
def w_repB : ByteArray := ⟨#[114, 101, 112, 101, 97, 116, 101, 100, 32]⟩
def labelP (n : Int) : ByteArray := if n = 2 then w_optB else if n = 3 then w_repB else noText
def kindP (kd : Int) (nm : ByteArray) : ByteArray := if kd = 1 then w_int32 else if kd = 2 then w_int64 else if kd = 3 then w_bool else if kd = 4 then w_text else if kd = 5 then w_bytes else nm

set_option maxHeartbeats 1000000 in
theorem label_calls (n : Int) (w : World) (h : i64B n) : Calls Tryz.prog 38 #[.int .i64 n] w fun e w' => e = .returned (.string (labelP n)) ∧ w' = w := by
  have hd : labelP n = if n = 2 then w_optB else if n = 3 then w_repB else noText := rfl
  by_cases h2 : n = 2
  · subst h2
    have hfin : Hid (labelP 2 = w_optB) := Lib.hid rfl
    clear hd
    go_enter Tryz.func38, Tryz.ntmps38
    go_wp2
    go_ret
    exact ⟨ret_str hfin.out.symm, rfl⟩
  · by_cases h3 : n = 3
    · subst h3
      have hfin : Hid (labelP 3 = w_repB) := Lib.hid rfl
      clear hd
      go_enter Tryz.func38, Tryz.ntmps38
      go_wp2
      go_ret
      exact ⟨ret_str hfin.out.symm, rfl⟩
    · have hfin : Hid (labelP n = noText) := Lib.hid (by rw [hd, if_neg h2, if_neg h3])
      have g2 : ((n : Int) == 2) = false := by simpa using h2
      have g3 : ((n : Int) == 3) = false := by simpa using h3
      clear hd h2 h3
      go_enter Tryz.func38, Tryz.ntmps38
      go_wp2
      go_ret
      exact ⟨ret_str hfin.out.symm, rfl⟩

set_option maxHeartbeats 2000000 in
theorem pkind_calls (kd : Int) (nm : ByteArray) (w : World) (h : i64B kd) : Calls Tryz.prog 39 #[.agg #[.int .i64 kd, .string nm]] w fun e w' => e = .returned (.string (kindP kd nm)) ∧ Below w.heap.size w w' := by
  have hb := Lib.hid (((Below.refl w.heap.size w).alloc (Nat.le_refl _) (.cells #[.int .i64 kd, .string nm] 42)).alloc (by simp) (.cells #[.string noText, .string w_int32, .string w_int64, .string w_bool, .string w_text, .string w_bytes] 102))
  by_cases h1 : 0 < kd
  · by_cases h2 : kd < 6
    · have hk : kd = 1 ∨ kd = 2 ∨ kd = 3 ∨ kd = 4 ∨ kd = 5 := by omega
      clear h1 h2 h
      rcases hk with rfl | rfl | rfl | rfl | rfl
      · go_enter Tryz.func39, Tryz.ntmps39
        go_wp2
        go_ret
        exact ⟨rfl, hb.out⟩
      · go_enter Tryz.func39, Tryz.ntmps39
        go_wp2
        go_ret
        exact ⟨rfl, hb.out⟩
      · go_enter Tryz.func39, Tryz.ntmps39
        go_wp2
        go_ret
        exact ⟨rfl, hb.out⟩
      · go_enter Tryz.func39, Tryz.ntmps39
        go_wp2
        go_ret
        exact ⟨rfl, hb.out⟩
      · go_enter Tryz.func39, Tryz.ntmps39
        go_wp2
        go_ret
        exact ⟨rfl, hb.out⟩
    · have hfin : Hid (kindP kd nm = nm) := Lib.hid (by unfold kindP; rw [if_neg (by omega), if_neg (by omega), if_neg (by omega), if_neg (by omega), if_neg (by omega)])
      go_enter Tryz.func39, Tryz.ntmps39
      go_wp2
      go_ret
      exact ⟨ret_str hfin.out.symm, hb.out⟩
  · have hfin : Hid (kindP kd nm = nm) := Lib.hid (by unfold kindP; rw [if_neg (by omega), if_neg (by omega), if_neg (by omega), if_neg (by omega), if_neg (by omega)])
    go_enter Tryz.func39, Tryz.ntmps39
    go_wp2
    go_ret
    exact ⟨ret_str hfin.out.symm, hb.out⟩

end Go.Proofs.YtkpgaccgcdoijaaGreatDoor

namespace Go.Proofs.YtkpgaccgcdoijaaGreatDoor
open Go.RowKit

/-- What slices.Clone hands back: a row of its own (nil of nil). -/
def ClonePost (e : TypeId) (size : Nat) (n : Nat) (xs : List Value) (w : World) (en : Ending) (w' : World) : Prop :=
  ∃ A c, en = .returned (.slice A n c) ∧ w'.ownsRow w.heap.size e size (.slice A n c) n xs ∧ Below w.heap.size w w'

set_option maxHeartbeats 2000000 in
set_option maxRecDepth 100000 in
theorem clone_field (A : Option Addr) (n c : Nat) (xs : List Value) (w : World) (h : Rd w (fun k => k < w.heap.size) 5 (.slice A n c) n xs) (h1 : ∀ u ∈ xs, u.oneCell' = true) (hn : n * 56 ≤ 140737488355328) :
    Calls Tryz.prog 26 #[.slice A n c] w (ClonePost 44 5 n xs w) := by
  have h' := Lib.hid h
  obtain ⟨i0, hi, hz0, hz1, hz2⟩ := info_parts infoField
  cases A with
  | none =>
    have hn0 : n = 0 := by
      rcases Nat.eq_zero_or_pos n with h0 | h0
      · exact h0
      · obtain ⟨b, o, c, hv, _⟩ := h.form h0
        cases hv
    subst hn0
    have he : ∀ W, (Go.binOp .eql 37 (.slice none 0 c) (.slice none 0 0)).run Tryz.prog W = .ok (.bool true) W := fun W => by kernel_rfl
    go_enter Tryz.func26, Tryz.ntmps26
    go_wp2
    go_ret
    exact ⟨none, 0, rfl, ⟨by rw [h'.out.1], .inl ⟨rfl, rfl⟩⟩, Below.refl _ _⟩
  | some a =>
    have hnews : ∀ (j : Nat) (u : Value), xs[j]? = some u → (w.alloc (.cells #[] 44)).cell? (a.add j) = some u := by
      intro j u hj
      obtain ⟨hj1, _⟩ := List.getElem?_eq_some_iff.1 hj
      rw [h.1] at hj1
      obtain ⟨b, o, c', hv, hb, hc⟩ := h.form (by omega)
      injection hv with hv1 _ _
      injection hv1 with hv1
      subst hv1
      rw [Addr.add_mid]
      exact (World.cell?_of_block (w := w) (Below.heap_alloc w _ b hb)).trans ((hc j hj1).trans hj)
    have he : ∀ W, (Go.binOp .eql 37 (.slice (some a) n c) (.slice none 0 0)).run Tryz.prog W = .ok (.bool false) W := fun W => by kernel_rfl
    go_enter Tryz.func26, Tryz.ntmps26
    go_wp2_with (at_builtin; go_must (refine wpList_append_own_at _ rfl _ _ 37 rfl w.heap.size 44 i0 _ 5 56 Tryz.underlying37 hi hz0 hz1 hz2 rfl (by decide) _ 0 [] rfl ⟨rfl, .inr ⟨w.heap.size, 0, #[], rfl, Nat.le_refl _, heap_alloc_new w _, Nat.le_refl _, Nat.zero_le _, rfl, rfl⟩⟩ a n c xs rfl h'.out.1 hnews h1 (by unfold maxLen; omega) (by omega) (by simp) ?_); intro v2 w2 ho2 hg2 hi2 hl2)
    obtain ⟨A2, c2, rfl⟩ := own_slice (n := n) (by simpa using ho2)
    have hfin : Hid (ClonePost 44 5 n xs w (.returned (.slice A2 n c2)) w2) := Lib.hid ⟨A2, c2, rfl, by simpa using ho2, ((Below.refl _ w).alloc (Nat.le_refl _) _).grown hg2 (by simp) (fun k hk => by cases hk; exact Nat.le_refl _)⟩
    replace ho2 := Lib.hid ho2; replace hg2 := Lib.hid hg2; replace hi2 := Lib.hid hi2; replace hl2 := Lib.hid hl2
    go_wp2
    go_ret
    exact hfin.out

set_option maxRecDepth 100000 in
theorem clone_message (A : Option Addr) (n c : Nat) (xs : List Value) (w : World) (h : Rd w (fun k => k < w.heap.size) 3 (.slice A n c) n xs) (h1 : ∀ u ∈ xs, u.oneCell' = true) (hn : n * 64 ≤ 140737488355328) :
    Calls Tryz.prog 25 #[.slice A n c] w (ClonePost 40 3 n xs w) := by
  have h' := Lib.hid h
  obtain ⟨i0, hi, hz0, hz1, hz2⟩ := info_parts infoMessage
  cases A with
  | none =>
    have hn0 : n = 0 := by
      rcases Nat.eq_zero_or_pos n with h0 | h0
      · exact h0
      · obtain ⟨b, o, c, hv, _⟩ := h.form h0
        cases hv
    subst hn0
    have he : ∀ W, (Go.binOp .eql 22 (.slice none 0 c) (.slice none 0 0)).run Tryz.prog W = .ok (.bool true) W := fun W => by kernel_rfl
    go_enter Tryz.func25, Tryz.ntmps25
    go_wp2
    go_ret
    exact ⟨none, 0, rfl, ⟨by rw [h'.out.1], .inl ⟨rfl, rfl⟩⟩, Below.refl _ _⟩
  | some a =>
    have hnews : ∀ (j : Nat) (u : Value), xs[j]? = some u → (w.alloc (.cells #[] 40)).cell? (a.add j) = some u := by
      intro j u hj
      obtain ⟨hj1, _⟩ := List.getElem?_eq_some_iff.1 hj
      rw [h.1] at hj1
      obtain ⟨b, o, c', hv, hb, hc⟩ := h.form (by omega)
      injection hv with hv1 _ _
      injection hv1 with hv1
      subst hv1
      rw [Addr.add_mid]
      exact (World.cell?_of_block (w := w) (Below.heap_alloc w _ b hb)).trans ((hc j hj1).trans hj)
    have he : ∀ W, (Go.binOp .eql 22 (.slice (some a) n c) (.slice none 0 0)).run Tryz.prog W = .ok (.bool false) W := fun W => by kernel_rfl
    go_enter Tryz.func25, Tryz.ntmps25
    go_wp2_with (at_builtin; go_must (refine wpList_append_own_at _ rfl _ _ 22 rfl w.heap.size 40 i0 _ 3 64 Tryz.underlying22 hi hz0 hz1 hz2 rfl (by decide) _ 0 [] rfl ⟨rfl, .inr ⟨w.heap.size, 0, #[], rfl, Nat.le_refl _, heap_alloc_new w _, Nat.le_refl _, Nat.zero_le _, rfl, rfl⟩⟩ a n c xs rfl h'.out.1 hnews h1 (by unfold maxLen; omega) (by omega) (by simp) ?_); intro v2 w2 ho2 hg2 hi2 hl2)
    obtain ⟨A2, c2, rfl⟩ := own_slice (n := n) (by simpa using ho2)
    have hfin : Hid (ClonePost 40 3 n xs w (.returned (.slice A2 n c2)) w2) := Lib.hid ⟨A2, c2, rfl, by simpa using ho2, ((Below.refl _ w).alloc (Nat.le_refl _) _).grown hg2 (by simp) (fun k hk => by cases hk; exact Nat.le_refl _)⟩
    replace ho2 := Lib.hid ho2; replace hg2 := Lib.hid hg2; replace hi2 := Lib.hid hi2; replace hl2 := Lib.hid hl2
    go_wp2
    go_ret
    exact hfin.out

set_option maxRecDepth 100000 in
theorem clone_enumeration (A : Option Addr) (n c : Nat) (xs : List Value) (w : World) (h : Rd w (fun k => k < w.heap.size) 2 (.slice A n c) n xs) (h1 : ∀ u ∈ xs, u.oneCell' = true) (hn : n * 40 ≤ 140737488355328) :
    Calls Tryz.prog 32 #[.slice A n c] w (ClonePost 47 2 n xs w) := by
  have h' := Lib.hid h
  obtain ⟨i0, hi, hz0, hz1, hz2⟩ := info_parts infoEnum
  cases A with
  | none =>
    have hn0 : n = 0 := by
      rcases Nat.eq_zero_or_pos n with h0 | h0
      · exact h0
      · obtain ⟨b, o, c, hv, _⟩ := h.form h0
        cases hv
    subst hn0
    have he : ∀ W, (Go.binOp .eql 23 (.slice none 0 c) (.slice none 0 0)).run Tryz.prog W = .ok (.bool true) W := fun W => by kernel_rfl
    go_enter Tryz.func32, Tryz.ntmps32
    go_wp2
    go_ret
    exact ⟨none, 0, rfl, ⟨by rw [h'.out.1], .inl ⟨rfl, rfl⟩⟩, Below.refl _ _⟩
  | some a =>
    have hnews : ∀ (j : Nat) (u : Value), xs[j]? = some u → (w.alloc (.cells #[] 47)).cell? (a.add j) = some u := by
      intro j u hj
      obtain ⟨hj1, _⟩ := List.getElem?_eq_some_iff.1 hj
      rw [h.1] at hj1
      obtain ⟨b, o, c', hv, hb, hc⟩ := h.form (by omega)
      injection hv with hv1 _ _
      injection hv1 with hv1
      subst hv1
      rw [Addr.add_mid]
      exact (World.cell?_of_block (w := w) (Below.heap_alloc w _ b hb)).trans ((hc j hj1).trans hj)
    have he : ∀ W, (Go.binOp .eql 23 (.slice (some a) n c) (.slice none 0 0)).run Tryz.prog W = .ok (.bool false) W := fun W => by kernel_rfl
    go_enter Tryz.func32, Tryz.ntmps32
    go_wp2_with (at_builtin; go_must (refine wpList_append_own_at _ rfl _ _ 23 rfl w.heap.size 47 i0 _ 2 40 Tryz.underlying23 hi hz0 hz1 hz2 rfl (by decide) _ 0 [] rfl ⟨rfl, .inr ⟨w.heap.size, 0, #[], rfl, Nat.le_refl _, heap_alloc_new w _, Nat.le_refl _, Nat.zero_le _, rfl, rfl⟩⟩ a n c xs rfl h'.out.1 hnews h1 (by unfold maxLen; omega) (by omega) (by simp) ?_); intro v2 w2 ho2 hg2 hi2 hl2)
    obtain ⟨A2, c2, rfl⟩ := own_slice (n := n) (by simpa using ho2)
    have hfin : Hid (ClonePost 47 2 n xs w (.returned (.slice A2 n c2)) w2) := Lib.hid ⟨A2, c2, rfl, by simpa using ho2, ((Below.refl _ w).alloc (Nat.le_refl _) _).grown hg2 (by simp) (fun k hk => by cases hk; exact Nat.le_refl _)⟩
    replace ho2 := Lib.hid ho2; replace hg2 := Lib.hid hg2; replace hi2 := Lib.hid hi2; replace hl2 := Lib.hid hl2
    go_wp2
    go_ret
    exact hfin.out

set_option maxRecDepth 100000 in
theorem clone_named (A : Option Addr) (n c : Nat) (xs : List Value) (w : World) (h : Rd w (fun k => k < w.heap.size) 2 (.slice A n c) n xs) (h1 : ∀ u ∈ xs, u.oneCell' = true) (hn : n * 24 ≤ 140737488355328) :
    Calls Tryz.prog 33 #[.slice A n c] w (ClonePost 49 2 n xs w) := by
  have h' := Lib.hid h
  obtain ⟨i0, hi, hz0, hz1, hz2⟩ := info_parts infoNamed
  cases A with
  | none =>
    have hn0 : n = 0 := by
      rcases Nat.eq_zero_or_pos n with h0 | h0
      · exact h0
      · obtain ⟨b, o, c, hv, _⟩ := h.form h0
        cases hv
    subst hn0
    have he : ∀ W, (Go.binOp .eql 45 (.slice none 0 c) (.slice none 0 0)).run Tryz.prog W = .ok (.bool true) W := fun W => by kernel_rfl
    go_enter Tryz.func33, Tryz.ntmps33
    go_wp2
    go_ret
    exact ⟨none, 0, rfl, ⟨by rw [h'.out.1], .inl ⟨rfl, rfl⟩⟩, Below.refl _ _⟩
  | some a =>
    have hnews : ∀ (j : Nat) (u : Value), xs[j]? = some u → (w.alloc (.cells #[] 49)).cell? (a.add j) = some u := by
      intro j u hj
      obtain ⟨hj1, _⟩ := List.getElem?_eq_some_iff.1 hj
      rw [h.1] at hj1
      obtain ⟨b, o, c', hv, hb, hc⟩ := h.form (by omega)
      injection hv with hv1 _ _
      injection hv1 with hv1
      subst hv1
      rw [Addr.add_mid]
      exact (World.cell?_of_block (w := w) (Below.heap_alloc w _ b hb)).trans ((hc j hj1).trans hj)
    have he : ∀ W, (Go.binOp .eql 45 (.slice (some a) n c) (.slice none 0 0)).run Tryz.prog W = .ok (.bool false) W := fun W => by kernel_rfl
    go_enter Tryz.func33, Tryz.ntmps33
    go_wp2_with (at_builtin; go_must (refine wpList_append_own_at _ rfl _ _ 45 rfl w.heap.size 49 i0 _ 2 24 Tryz.underlying45 hi hz0 hz1 hz2 rfl (by decide) _ 0 [] rfl ⟨rfl, .inr ⟨w.heap.size, 0, #[], rfl, Nat.le_refl _, heap_alloc_new w _, Nat.le_refl _, Nat.zero_le _, rfl, rfl⟩⟩ a n c xs rfl h'.out.1 hnews h1 (by unfold maxLen; omega) (by omega) (by simp) ?_); intro v2 w2 ho2 hg2 hi2 hl2)
    obtain ⟨A2, c2, rfl⟩ := own_slice (n := n) (by simpa using ho2)
    have hfin : Hid (ClonePost 49 2 n xs w (.returned (.slice A2 n c2)) w2) := Lib.hid ⟨A2, c2, rfl, by simpa using ho2, ((Below.refl _ w).alloc (Nat.le_refl _) _).grown hg2 (by simp) (fun k hk => by cases hk; exact Nat.le_refl _)⟩
    replace ho2 := Lib.hid ho2; replace hg2 := Lib.hid hg2; replace hi2 := Lib.hid hi2; replace hl2 := Lib.hid hl2
    go_wp2
    go_ret
    exact hfin.out

set_option maxRecDepth 100000 in
theorem clone_method (A : Option Addr) (n c : Nat) (xs : List Value) (w : World) (h : Rd w (fun k => k < w.heap.size) 3 (.slice A n c) n xs) (h1 : ∀ u ∈ xs, u.oneCell' = true) (hn : n * 48 ≤ 140737488355328) :
    Calls Tryz.prog 36 #[.slice A n c] w (ClonePost 54 3 n xs w) := by
  have h' := Lib.hid h
  obtain ⟨i0, hi, hz0, hz1, hz2⟩ := info_parts infoMethod
  cases A with
  | none =>
    have hn0 : n = 0 := by
      rcases Nat.eq_zero_or_pos n with h0 | h0
      · exact h0
      · obtain ⟨b, o, c, hv, _⟩ := h.form h0
        cases hv
    subst hn0
    have he : ∀ W, (Go.binOp .eql 24 (.slice none 0 c) (.slice none 0 0)).run Tryz.prog W = .ok (.bool true) W := fun W => by kernel_rfl
    go_enter Tryz.func36, Tryz.ntmps36
    go_wp2
    go_ret
    exact ⟨none, 0, rfl, ⟨by rw [h'.out.1], .inl ⟨rfl, rfl⟩⟩, Below.refl _ _⟩
  | some a =>
    have hnews : ∀ (j : Nat) (u : Value), xs[j]? = some u → (w.alloc (.cells #[] 54)).cell? (a.add j) = some u := by
      intro j u hj
      obtain ⟨hj1, _⟩ := List.getElem?_eq_some_iff.1 hj
      rw [h.1] at hj1
      obtain ⟨b, o, c', hv, hb, hc⟩ := h.form (by omega)
      injection hv with hv1 _ _
      injection hv1 with hv1
      subst hv1
      rw [Addr.add_mid]
      exact (World.cell?_of_block (w := w) (Below.heap_alloc w _ b hb)).trans ((hc j hj1).trans hj)
    have he : ∀ W, (Go.binOp .eql 24 (.slice (some a) n c) (.slice none 0 0)).run Tryz.prog W = .ok (.bool false) W := fun W => by kernel_rfl
    go_enter Tryz.func36, Tryz.ntmps36
    go_wp2_with (at_builtin; go_must (refine wpList_append_own_at _ rfl _ _ 24 rfl w.heap.size 54 i0 _ 3 48 Tryz.underlying24 hi hz0 hz1 hz2 rfl (by decide) _ 0 [] rfl ⟨rfl, .inr ⟨w.heap.size, 0, #[], rfl, Nat.le_refl _, heap_alloc_new w _, Nat.le_refl _, Nat.zero_le _, rfl, rfl⟩⟩ a n c xs rfl h'.out.1 hnews h1 (by unfold maxLen; omega) (by omega) (by simp) ?_); intro v2 w2 ho2 hg2 hi2 hl2)
    obtain ⟨A2, c2, rfl⟩ := own_slice (n := n) (by simpa using ho2)
    have hfin : Hid (ClonePost 54 3 n xs w (.returned (.slice A2 n c2)) w2) := Lib.hid ⟨A2, c2, rfl, by simpa using ho2, ((Below.refl _ w).alloc (Nat.le_refl _) _).grown hg2 (by simp) (fun k hk => by cases hk; exact Nat.le_refl _)⟩
    replace ho2 := Lib.hid ho2; replace hg2 := Lib.hid hg2; replace hi2 := Lib.hid hi2; replace hl2 := Lib.hid hl2
    go_wp2
    go_ret
    exact hfin.out

set_option maxRecDepth 100000 in
theorem clone_int (A : Option Addr) (n c : Nat) (xs : List Value) (w : World) (h : Rd w (fun k => k < w.heap.size) 1 (.slice A n c) n xs) (h1 : ∀ u ∈ xs, u.oneCell' = true) (hn : n * 8 ≤ 140737488355328) :
    Calls Tryz.prog 30 #[.slice A n c] w (ClonePost 3 1 n xs w) := by
  have h' := Lib.hid h
  obtain ⟨i0, hi, hz0, hz1, hz2⟩ := info_parts infoInt
  cases A with
  | none =>
    have hn0 : n = 0 := by
      rcases Nat.eq_zero_or_pos n with h0 | h0
      · exact h0
      · obtain ⟨b, o, c, hv, _⟩ := h.form h0
        cases hv
    subst hn0
    have he : ∀ W, (Go.binOp .eql 38 (.slice none 0 c) (.slice none 0 0)).run Tryz.prog W = .ok (.bool true) W := fun W => by kernel_rfl
    go_enter Tryz.func30, Tryz.ntmps30
    go_wp2
    go_ret
    exact ⟨none, 0, rfl, ⟨by rw [h'.out.1], .inl ⟨rfl, rfl⟩⟩, Below.refl _ _⟩
  | some a =>
    have hnews : ∀ (j : Nat) (u : Value), xs[j]? = some u → (w.alloc (.cells #[] 3)).cell? (a.add j) = some u := by
      intro j u hj
      obtain ⟨hj1, _⟩ := List.getElem?_eq_some_iff.1 hj
      rw [h.1] at hj1
      obtain ⟨b, o, c', hv, hb, hc⟩ := h.form (by omega)
      injection hv with hv1 _ _
      injection hv1 with hv1
      subst hv1
      rw [Addr.add_mid]
      exact (World.cell?_of_block (w := w) (Below.heap_alloc w _ b hb)).trans ((hc j hj1).trans hj)
    have he : ∀ W, (Go.binOp .eql 38 (.slice (some a) n c) (.slice none 0 0)).run Tryz.prog W = .ok (.bool false) W := fun W => by kernel_rfl
    go_enter Tryz.func30, Tryz.ntmps30
    go_wp2_with (at_builtin; go_must (refine wpList_append_own_at _ rfl _ _ 38 rfl w.heap.size 3 i0 _ 1 8 Tryz.underlying38 hi hz0 hz1 hz2 rfl (by decide) _ 0 [] rfl ⟨rfl, .inr ⟨w.heap.size, 0, #[], rfl, Nat.le_refl _, heap_alloc_new w _, Nat.le_refl _, Nat.zero_le _, rfl, rfl⟩⟩ a n c xs rfl h'.out.1 hnews h1 (by unfold maxLen; omega) (by omega) (by simp) ?_); intro v2 w2 ho2 hg2 hi2 hl2)
    obtain ⟨A2, c2, rfl⟩ := own_slice (n := n) (by simpa using ho2)
    have hfin : Hid (ClonePost 3 1 n xs w (.returned (.slice A2 n c2)) w2) := Lib.hid ⟨A2, c2, rfl, by simpa using ho2, ((Below.refl _ w).alloc (Nat.le_refl _) _).grown hg2 (by simp) (fun k hk => by cases hk; exact Nat.le_refl _)⟩
    replace ho2 := Lib.hid ho2; replace hg2 := Lib.hid hg2; replace hi2 := Lib.hid hi2; replace hl2 := Lib.hid hl2
    go_wp2
    go_ret
    exact hfin.out


end Go.Proofs.YtkpgaccgcdoijaaGreatDoor

namespace Go.Proofs.YtkpgaccgcdoijaaGreatDoor
open Go.RowKit

def sameInts (a b : List Int) : Bool := a == b

set_option maxHeartbeats 2000000 in
theorem sameInts_calls (a b : List Int) (va vb : Value) (w : World) (ha : Rd w (fun k => k < w.heap.size) 1 va a.length (intsCells a)) (hb : Rd w (fun k => k < w.heap.size) 1 vb b.length (intsCells b)) :
    Calls Tryz.prog 53 #[va, vb] w fun e w' => e = .returned (.bool (sameInts a b)) ∧ Below w.heap.size w w' := by
  have hd : sameInts a b = (a == b) := rfl
  obtain ⟨aA, ac, rfl⟩ := ha.slice
  obtain ⟨bA, bc, rfl⟩ := hb.slice
  have hal := ha.len
  have hbl := hb.len
  unfold maxLen at hal hbl
  replace ha := Lib.hid ha; replace hb := Lib.hid hb
  by_cases hl : a.length = b.length
  · have hl' : ((a.length : Int) == (b.length : Int)) = true := by simp only [beq_iff_eq]; omega
    replace hd := Lib.hid hd
    replace hl := Lib.hid hl
    go_enter Tryz.func53, Tryz.ntmps53
    go_wp2
    go_loopw [5] (fun i wr => ∃ (k : Nat), k ≤ a.length ∧ i = .int .i64 k ∧ Below w.heap.size w wr ∧ sameInts a b = (a.drop k == b.drop k)) (fun i _ => a.length - (intOf i).toNat)
    case atStart => exact ⟨0, Nat.zero_le _, rfl, Below.refl _ w, rfl⟩
    case round =>
      obtain ⟨k, hk, rfl, hbw, hst⟩ := hrel
      by_cases hlt : k < a.length
      · have hltb : k < b.length := by have := hl.out; omega
        have hlt' : (k : Int) < (a.length : Int) := by omega
        have hltb' : (k : Int) < (b.length : Int) := by omega
        obtain ⟨ab, ao, ac', hv, hSa, _⟩ := ha.out.form (by omega)
        injection hv with hv1 hv2 hv3
        subst hv1; subst hv3
        obtain ⟨bb, bo, bc', hv, hSb, _⟩ := hb.out.form (by omega)
        injection hv with hv1 hv2 hv3
        subst hv1; subst hv3
        have hca : wr.cell? ⟨ab, ao + k, none⟩ = some (.int .i64 a[k]) := by
          have := ha.out.at_ (by omega) hbw.block k 0 (by omega) (v := .int .i64 a[k]) (by simp [intsCells, List.getElem?_eq_getElem hlt])
          simpa using this
        have hcb : wr.cell? ⟨bb, bo + k, none⟩ = some (.int .i64 b[k]) := by
          have := hb.out.at_ (by omega) hbw.block k 0 (by omega) (v := .int .i64 b[k]) (by simp [intsCells, List.getElem?_eq_getElem hltb])
          simpa using this
        have hst2 : Hid (sameInts a b = (a[k] == b[k] && a.drop (k + 1) == b.drop (k + 1))) := Lib.hid (by rw [hst, List.drop_eq_getElem_cons hlt, List.drop_eq_getElem_cons hltb]; rfl)
        generalize a[k] = x at hca hst2
        generalize b[k] = y at hcb hst2
        replace hst := Lib.hid hst
        obtain ⟨wk, rfl⟩ : ∃ wo : World, wo = wr := ⟨_, rfl⟩
        have hbd := Lib.hid hbw.drew
        replace hbw := Lib.hid hbw
        cases hq : ((x : Int) == y) with
        | true =>
          have hst3 : Hid (sameInts a b = (a.drop (k + 1) == b.drop (k + 1))) := Lib.hid (by rw [hst2.out, hq]; rfl)
          clear hst2
          go_upto_region 6 with fail
          go_region
          go_wp2
          go_roundw
          case rel => exact ⟨k + 1, by omega, by go_num, hbd.out, hst3.out⟩
          case measure => simp [intOf]; omega
        | false =>
          have hfin : Hid (sameInts a b = false) := Lib.hid (by rw [hst2.out, hq]; rfl)
          clear hst2
          go_upto_region 6 with fail
          go_region
          go_wp2
          go_ret
          exact ⟨ret_bool hfin.out.symm, hbd.out⟩
      · have hke : k = a.length := by omega
        subst hke
        have hfin : Hid (sameInts a b = true) := Lib.hid (by rw [hst, List.drop_length, List.drop_eq_nil_of_le (by have := hl.out; omega)]; rfl)
        replace hst := Lib.hid hst
        go_wp2
        go_ret
        exact ⟨ret_bool hfin.out.symm, hbw⟩
  · have hl' : ((a.length : Int) == (b.length : Int)) = false := by simp only [beq_eq_false_iff_ne]; omega
    have hfin : Hid (sameInts a b = false) := Lib.hid (by
      rw [hd]
      cases hh : (a == b)
      · rfl
      · rw [beq_iff_eq] at hh; rw [hh] at hl; exact absurd rfl hl)
    go_enter Tryz.func53, Tryz.ntmps53
    go_wp2
    go_ret
    exact ⟨ret_bool hfin.out.symm, Below.refl _ _⟩

end Go.Proofs.YtkpgaccgcdoijaaGreatDoor

namespace Go.Proofs.YtkpgaccgcdoijaaGreatDoor
open Go.RowKit

set_option maxRecDepth 100000 in
theorem ints_calls (A : Option Addr) (n c : Nat) (xs : List Value) (w : World) (h : Rd w (fun k => k < w.heap.size) 1 (.slice A n c) n xs) (h1 : ∀ u ∈ xs, u.oneCell' = true) (hn : n * 8 ≤ 140737488355328) :
    Calls Tryz.prog 22 #[.slice A n c] w (ClonePost 3 1 n xs w) := by
  have h' := Lib.hid h
  obtain ⟨i0, hi, hz0, hz1, hz2⟩ := info_parts infoInt
  cases A with
  | none =>
    have hn0 : n = 0 := by
      rcases Nat.eq_zero_or_pos n with h0 | h0
      · exact h0
      · obtain ⟨b, o, c, hv, _⟩ := h.form h0
        cases hv
    subst hn0
    go_enter Tryz.func22, Tryz.ntmps22
    go_wp2
    go_ret
    exact ⟨none, 0, rfl, ⟨by rw [h'.out.1], .inl ⟨rfl, rfl⟩⟩, Below.refl _ _⟩
  | some a =>
    have hnews : ∀ (j : Nat) (u : Value), xs[j]? = some u → w.cell? (a.add j) = some u := by
      intro j u hj
      obtain ⟨hj1, _⟩ := List.getElem?_eq_some_iff.1 hj
      rw [h.1] at hj1
      obtain ⟨b, o, c', hv, hb, hc⟩ := h.form (by omega)
      injection hv with hv1 _ _
      injection hv1 with hv1
      subst hv1
      rw [Addr.add_mid]
      exact (hc j hj1).trans hj
    go_enter Tryz.func22, Tryz.ntmps22
    go_wp2_with (at_builtin; go_must (refine wpList_append_own_at _ rfl _ _ 38 rfl w.heap.size 3 i0 _ 1 8 Tryz.underlying38 hi hz0 hz1 hz2 rfl (by decide) (.slice none 0 0) 0 [] rfl ⟨rfl, .inl ⟨rfl, rfl⟩⟩ a n c xs rfl h'.out.1 hnews h1 (by unfold maxLen; omega) (by omega) (Nat.le_refl _) ?_); intro v2 w2 ho2 hg2 hi2 hl2)
    obtain ⟨A2, c2, rfl⟩ := own_slice (n := n) (by simpa using ho2)
    have hfin : Hid (ClonePost 3 1 n xs w (.returned (.slice A2 n c2)) w2) := Lib.hid ⟨A2, c2, rfl, by simpa using ho2, (Below.refl _ w).grown hg2 (Nat.le_refl _) (fun k hk => by cases hk)⟩
    replace ho2 := Lib.hid ho2; replace hg2 := Lib.hid hg2; replace hi2 := Lib.hid hi2; replace hl2 := Lib.hid hl2
    go_wp2
    go_ret
    exact hfin.out

end Go.Proofs.YtkpgaccgcdoijaaGreatDoor

import Derived.Test.YtkpgaccgcdoijaaGreatDoorZShelf
import Derived.WalkKit
import Derived.BigCall
import Derived.BigQuiet
import Derived.Deep.QuietTactic
import Derived.Deep.DeepCutAuto
import Derived.Deep.DeepFit
import Derived.Lib.Hide
import Derived.Lib.OthersKept
import Derived.WalkSmall
import Derived.ChangeBears2
import Derived.Maps.AppendAt
import Derived.Deep.AppendLies
import Derived.Laws.Rows
import Derived.Lib.IndexAny
namespace Go.Proofs.YtkpgaccgcdoijaaGreatDoor
open Go.RowKit

/-- The tables of the library's that the program reads. -/
structure Tabs (w : World) : Prop where
  u8 : Lib.Utf8Tabs 2 3 w
  p10 : Lib.TabIs Tryz.prog w "internal/strconv.uint64pow10" .u64 Lib.pow10Tab

theorem cellBelow {w w1 : World} {B : Nat} (hb : Below B w w1) (hB : w.heap.size ≤ B) {a : Addr} {v : Value} (hc : w.cell? a = some v) : w1.cell? a = some v :=
  (hb.cell (Nat.lt_of_lt_of_le (World.block_lt_of_cell? w a hc) hB)).trans hc

theorem Tabs.below {w w1 : World} (h : Tabs w) (hb : Below w.heap.size w w1) : Tabs w1 := by
  refine ⟨⟨fun c hc => cellBelow hb (Nat.le_refl _) (h.u8.1 c hc), fun i hi => ⟨cellBelow hb (Nat.le_refl _) (h.u8.2 i hi).1, cellBelow hb (Nat.le_refl _) (h.u8.2 i hi).2⟩⟩, ?_⟩
  obtain ⟨g, hg, hlt⟩ : ∃ g, Tryz.prog.globalNamed "internal/strconv.uint64pow10" = some g ∧ g = 0 := ⟨_, by kernel_rfl, rfl⟩
  have hp : w.var? Tryz.prog "internal/strconv.uint64pow10" = _ := h.p10
  have hs : g < w.heap.size := by
    have h0 := (World.block_lt_of_cell? w _ (var?_cell hg hp 0))
    exact h0
  exact var?_below hb hg hs hp

/-- Byte i of a string. -/
def bt (s : ByteArray) (i : Int) : Int := if h : i.toNat < s.size then ((s[i.toNat]'h).toNat : Int) else 0

/-! ### endings: what is told of a result's parts -/
theorem ret_int {k : IntKind} {a b : Int} (h : a = b) : Ending.returned (.int k a) = .returned (.int k b) := by rw [h]
theorem ret_bool {a b : Bool} (h : a = b) : Ending.returned (.bool a) = .returned (.bool b) := by rw [h]
theorem ret_str {a b : ByteArray} (h : a = b) : Ending.returned (.string a) = .returned (.string b) := by rw [h]
theorem ret_two {a a' b b' : Value} (h1 : a = a') (h2 : b = b') : Ending.returned (.tuple #[a, b]) = .returned (.tuple #[a', b']) := by rw [h1, h2]
theorem ret_three {a a' b b' c c' : Value} (h1 : a = a') (h2 : b = b') (h3 : c = c') : Ending.returned (.tuple #[a, b, c]) = .returned (.tuple #[a', b', c']) := by rw [h1, h2, h3]
theorem v_int {k : IntKind} {a b : Int} (h : a = b) : Value.int k a = .int k b := by rw [h]
theorem v_bool {a b : Bool} (h : a = b) : Value.bool a = .bool b := by rw [h]
theorem v_str {a b : ByteArray} (h : a = b) : Value.string a = .string b := by rw [h]

/-! ### append of one element of 'size' cells onto a row that the call owns, the element built just ahead -/
theorem grown_from_alloc {W w' : World} {o : Obj} {row : Option Nat} (h : (W.alloc o).grownBy w' row) : W.grownBy w' row :=
  ⟨h.os, h.tape, h.output, Nat.le_trans (by simp) h.size, fun k hk hne => (h.block k (by simp; omega) hne).trans (Below.heap_alloc W o k hk)⟩

theorem wpList_push {P : Program} {ops : Array Oper} {rest : List Oper} {o : Oper} {a : Act} {Q : Exit → Act → World → Prop} {w0 W : World} (hgd : o.guard = none) (s x : Operand) (t : TypeId)
    (ho : o.op = .call { callee := .builtin .append, args := #[s, x], argTypes := #[t, t] })
    (B base : Nat) (e : TypeId) (z : Value) (size bytes : Nat) (ht : P.underlying t = some (.slice e))
    (hinfo : (P.info? e).map (fun i => (i.zero, i.size, i.bytes)) = some (some z, size, bytes)) (hzs : z.cells.size = size) (hsz : 0 < size) (hby : 0 < bytes)
    (v : Value) (n : Nat) (xs : List Value) (cs : Array Value) (hs : a.eval s = v) (hown : W.ownsRow base e size v n xs)
    (hx : a.eval x = .slice (some ⟨W.heap.size, 0, none⟩) 1 1) (hl : cs.size = size) (h1 : ∀ u ∈ cs.toList, u.oneCell' = true)
    (hbytes : (n + 1) * bytes ≤ 140737488355328) (hbase : base ≤ W.heap.size) (hBb : B ≤ base) (HB : Below B w0 W)
    (h : ∀ v' w', w'.ownsRow base e size v' (n + 1) (xs ++ cs.toList) → W.grownBy w' v.ownBlock → Below B w0 w' → (v'.ownBlock = v.ownBlock ∨ ∃ b, v'.ownBlock = some b ∧ W.heap.size ≤ b) → wpList P ops Q rest (a.put o.dst v') w') :
    wpList P ops Q (o :: rest) a (W.alloc (.cells cs e)) := by
  obtain ⟨i0, hi, hzz⟩ := Option.map_eq_some_iff.1 hinfo
  simp only [Prod.mk.injEq] at hzz
  obtain ⟨hz0, hz1, hz2⟩ := hzz
  have hlen : n + 1 ≤ 140737488355328 := Nat.le_trans (Nat.le_mul_of_pos_right _ hby) hbytes
  refine wpList_append_own_at (W.alloc (.cells cs e)) hgd s x t ho base e i0 z size bytes ht hi hz0 hz1 hz2 hzs hsz v n xs hs (hown.alloc _) ⟨W.heap.size, 0, none⟩ 1 1 cs.toList hx (by simp [hl])
    (World.news_of_block (heap_alloc_new W _)) h1 (by simp only [maxLen]; omega) hbytes (by simp; omega) ?_
  intro v1 w1 hown' hg _ hat
  have hg' := grown_from_alloc hg
  refine h v1 w1 hown' hg' (HB.grown hg' (by omega) (fun k hk => Nat.le_trans hBb (hown.lt k hk).1)) ?_
  rcases hat with hat | hat
  · exact .inl hat
  · exact .inr ⟨_, hat, by simp⟩

/-- s[i:j], j a sum (or what is spelled otherwise). -/
theorem slice_str {P : Program} {t : TypeId} (ht : P.underlying t = some .string) (s : ByteArray) (i : Nat) (j : Int) (m : Nat) (hj : j = m) (h1 : i ≤ m) (h2 : m ≤ s.size) (W : World) :
    (Instr.slice t (.string s) (some (.int .i64 i)) (some (.int .i64 j)) none).run P W = .ok (.string (s.extract i m)) W := by
  subst hj
  have := run_slice_string (P := P) W t s .i64 .i64 (i : Int) (m : Int) ht (by omega) (by omega) (by omega)
  simpa using this

end Go.Proofs.YtkpgaccgcdoijaaGreatDoor

namespace Go.Proofs.YtkpgaccgcdoijaaGreatDoor
open Go.RowKit

/-! ### the plain functions -/
/-- runes.Next. -/
def nextP (s : ByteArray) (a : Int) : Int × Int × Bool :=
  if a < 0 ∨ (s.size : Int) ≤ a then (0, 0, false)
  else if (Utf8.decode s a.toNat).1 = 65533 ∧ (Utf8.decode s a.toNat).2 < 2 then (0, 0, false)
  else ((Utf8.decode s a.toNat).1, (Utf8.decode s a.toNat).2, true)

theorem getb_of_ge (s : ByteArray) (k : Nat) (h : ¬ k < s.size) : s.get! k = default := by
  cases s with
  | mk d => exact getElem!_neg d k h

theorem decodeGo_drop (s : ByteArray) (a : Nat) (h : a < s.size) : Lib.decodeGo (s.extract a s.size) = Utf8.decode s a := by
  have hz : (s.extract a s.size).size = s.size - a := by simp
  unfold Lib.decodeGo
  rw [if_neg (by omega), Lib.decode_at, Lib.decode_at, hz]
  have g : ∀ j, (s.extract a s.size).get! j = s.get! (a + j) := by
    intro j
    by_cases hj : a + j < s.size
    · rw [Utf8W.get!_of_lt _ _ (by omega), Utf8W.get!_of_lt _ _ hj]
      exact ByteArray.getElem_extract ..
    · rw [getb_of_ge _ _ (by omega), getb_of_ge _ _ (by omega)]
  simp only [g, Nat.sub_zero]
  rfl

set_option maxHeartbeats 400000 in
theorem next_calls (s : ByteArray) (a : Int) (w : World) (hT : Tabs w) (hs : s.size ≤ maxLen) :
    Calls Tryz.prog 100 #[.string s, .int .i64 a] w fun e w' => e = .returned (.tuple #[.int .i32 (nextP s a).1, .int .i64 (nextP s a).2.1, .bool (nextP s a).2.2]) ∧ Below w.heap.size w w' := by
  unfold maxLen at hs
  by_cases h0 : a < 0
  · have hr : nextP s a = (0, 0, false) := by simp [nextP, h0]
    rw [hr]
    go_enter Tryz.func100, Tryz.ntmps100
    have b1 : decide (a < 0) = true := by simpa using h0
    go_wp2
    go_ret3
    exact ⟨rfl, Below.refl _ _⟩
  · have b1 : decide (a < 0) = false := by simpa using h0
    by_cases h1 : (s.size : Int) ≤ a
    · have hr : nextP s a = (0, 0, false) := by simp [nextP, h1]
      rw [hr]
      have b2 : decide ((s.size : Int) ≤ a) = true := by simpa using h1
      go_enter Tryz.func100, Tryz.ntmps100
      go_wp2
      go_ret3
      exact ⟨rfl, Below.refl _ _⟩
    · have b2 : decide ((s.size : Int) ≤ a) = false := by simpa using h1
      obtain ⟨n, rfl⟩ := Int.eq_ofNat_of_zero_le (show 0 ≤ a by omega)
      have hd := decodeGo_drop s n (by omega)
      go_enter Tryz.func100, Tryz.ntmps100
      go_wp2_with (go_at_call 140; refine (Tryz.utf8_DecodeRuneInString _ _ hT.u8).mono ?_; rintro e w' ⟨rfl, hb⟩)
      all_goals
        have hN : ¬ ((n : Int) < 0 ∨ (s.size : Int) ≤ n) := by omega
        go_ret3
        refine ⟨?_, hb⟩
        unfold nextP
        rw [if_neg hN, Int.toNat_natCast]
        first
          | (rw [if_pos (by omega)]; exact ret_three rfl rfl rfl)
          | (rw [if_neg (by omega)]; exact ret_three (v_int (by omega)) rfl rfl)

theorem nextP_ok (s : ByteArray) (n : Nat) (h : n < s.size) : (nextP s n).2.2 = !decide ((Utf8.decode s n).1 = 65533 ∧ (Utf8.decode s n).2 < 2) := by
  unfold nextP
  rw [if_neg (by omega), Int.toNat_natCast]
  split
  · rename_i h1; simp [h1]
  · rename_i h1; simp only [h1, decide_false]; rfl

/-- From a place on: are all runes such? (by at most so many rounds) -/
def allFrom (ok : Nat → Nat → Nat → Bool) (s : ByteArray) : Nat → Nat → Bool
  | 0, _ => true
  | k + 1, p => if p < s.size then ok p (Utf8.decode s p).1 (Utf8.decode s p).2 && allFrom ok s k (p + (Utf8.decode s p).2) else true
theorem allFrom_end (ok : Nat → Nat → Nat → Bool) (s : ByteArray) (k p : Nat) (h : ¬ p < s.size) : allFrom ok s k p = true := by
  cases k with
  | zero => rfl
  | succ f => simp [allFrom, h]

def okRune (_ r n : Nat) : Bool := !decide (r = 65533 ∧ n < 2)
def validP (s : ByteArray) : Bool := allFrom okRune s s.size 0

theorem width_pos (s : ByteArray) (pos : Nat) (h : pos < s.size) : 1 ≤ (Utf8.decode s pos).2 := by
  by_cases ha : (s[pos]'h).toNat < 128
  · rw [decode_ascii s pos h ha]
    exact Nat.le_refl _
  · exact (decode_high s pos h (by omega)).2

set_option maxHeartbeats 1000000 in
theorem valid_calls (s : ByteArray) (w : World) (hT : Tabs w) (hs : s.size ≤ maxLen) :
    Calls Tryz.prog 124 #[.string s] w fun e w' => e = .returned (.bool (validP s)) ∧ Below w.heap.size w w' := by
  have hs' := hs
  unfold maxLen at hs'
  go_enter Tryz.func124, Tryz.ntmps124
  go_wp2
  go_loopw [] (fun wr => ∃ (pos fuel : Nat), wr.heap[w.heap.size]? = some (.stringIter s pos) ∧ Below w.heap.size w wr ∧ allFrom okRune s fuel pos = validP s ∧ s.size ≤ pos + fuel) (fun wr => s.size - wr.iterPos w.heap.size)
  case atStart =>
    refine ⟨0, s.size, ?_, (Below.refl _ w).alloc (Nat.le_refl _) _, rfl, by omega⟩
    exact World.iter_heap w s 0
  case round =>
    obtain ⟨pos, fuel, hit, hbw, hacc, hfu⟩ := hrel
    replace hacc := Lib.hid hacc
    by_cases hp : pos < s.size
    · have hnx : ∀ ty, (Instr.next (.pointer (some ⟨w.heap.size, 0, none⟩)) true ty).run Tryz.prog wr = _ := fun ty => Lib.run_next_any_at wr w.heap.size s pos ty hit hp
      have hwd := width_pos s pos hp
      have hd1 := decode_le s pos
      have hit2 := Lib.iterAt_heap wr w.heap.size s pos (pos + (Utf8.decode s pos).2) hit
      have hbw2 := Lib.below_iterAt hbw (k := w.heap.size) (Nat.le_refl _) s (pos + (Utf8.decode s pos).2)
      have hT2 := Lib.hid (hT.below hbw2)
      have hsz2 : w.heap.size ≤ (wr.iterAt w.heap.size s (pos + (Utf8.decode s pos).2)).heap.size := hbw2.size
      obtain ⟨f, rfl⟩ : ∃ f, fuel = f + 1 := ⟨fuel - 1, by omega⟩
      have hN := Lib.hid (nextP_ok s pos hp)
      by_cases hr : (Utf8.decode s pos).1 = 65533
      · have hrb : (((Utf8.decode s pos).1 : Int) != 65533) = false := by simp [hr]
        by_cases h2 : (Utf8.decode s pos).2 < 2
        · have hok : Hid ((nextP s (pos : Int)).2.2 = false) := by refine Lib.hid ?_; rw [hN.out]; simp [hr, h2]
          have hfin : Hid (validP s = false) := by refine Lib.hid ?_; rw [← hacc.out]; simp [allFrom, hp, okRune, hr, h2]
          clear hr
          go_wp2_with (go_at_call 100; refine (next_calls _ _ _ hT2.out hs).mono ?_; rw [hok.out]; rintro e w' ⟨rfl, hb⟩)
          go_ret
          exact ⟨by rw [hfin.out]; rfl, hbw2.trans (hb.mono hsz2)⟩
        · have hok : Hid ((nextP s (pos : Int)).2.2 = true) := by refine Lib.hid ?_; rw [hN.out]; simp [h2]
          have hfin : Hid (allFrom okRune s f (pos + (Utf8.decode s pos).2) = validP s) := by refine Lib.hid ?_; rw [← hacc.out]; simp [allFrom, hp, okRune, h2]
          clear hr
          go_wp2_with (go_at_call 100; refine (next_calls _ _ _ hT2.out hs).mono ?_; rw [hok.out]; rintro e w' ⟨rfl, hb⟩)
          have hit3 := (hb.block _ (Array.getElem?_eq_some_iff.1 hit2).1).trans hit2
          go_roundw
          case rel => exact ⟨pos + (Utf8.decode s pos).2, f, hit3, hbw2.trans (hb.mono hsz2), hfin.out, by omega⟩
          case measure =>
            simp only [World.iterPos, hit3, hit]
            omega
      · have hrb : (((Utf8.decode s pos).1 : Int) != 65533) = true := by simp; omega
        have hfin : Hid (allFrom okRune s f (pos + (Utf8.decode s pos).2) = validP s) := by refine Lib.hid ?_; rw [← hacc.out]; simp [allFrom, hp, okRune, hr]
        go_wp2
        go_roundw
        case rel => exact ⟨pos + (Utf8.decode s pos).2, f, hit2, hbw2, hfin.out, by omega⟩
        case measure =>
          simp only [World.iterPos, hit2, hit]
          omega
    · have hnx : ∀ ty, (Instr.next (.pointer (some ⟨w.heap.size, 0, none⟩)) true ty).run Tryz.prog wr = _ := fun ty => Lib.run_next_end_at wr w.heap.size s pos ty hit hp
      have hfin : Hid (validP s = true) := by refine Lib.hid ?_; rw [← hacc.out]; exact allFrom_end _ _ _ _ hp
      go_wp2
      go_ret
      exact ⟨by rw [hfin.out]; rfl, hbw⟩

/-- How many runes stand from a place on. -/
def countFrom (s : ByteArray) : Nat → Nat → Nat
  | 0, _ => 0
  | k + 1, p => if p < s.size then countFrom s k (p + (Utf8.decode s p).2) + 1 else 0
theorem countFrom_end (s : ByteArray) (k p : Nat) (h : ¬ p < s.size) : countFrom s k p = 0 := by
  cases k with
  | zero => rfl
  | succ f => simp [countFrom, h]
def countP (s : ByteArray) : Nat := if validP s then countFrom s s.size 0 else 0
theorem countFrom_le (s : ByteArray) : ∀ k p, countFrom s k p ≤ k
  | 0, p => Nat.le_refl _
  | k + 1, p => by
    simp only [countFrom]
    split
    · have := countFrom_le s k (p + (Utf8.decode s p).2); omega
    · omega

set_option maxHeartbeats 1000000 in
theorem count_calls (s : ByteArray) (w : World) (hT : Tabs w) (hs : s.size ≤ maxLen) :
    Calls Tryz.prog 76 #[.string s] w fun e w' => e = .returned (.int .i64 (countP s)) ∧ Below w.heap.size w w' := by
  have hs' := hs
  unfold maxLen at hs'
  by_cases hv : validP s = true
  · have hc : Hid (countP s = countFrom s s.size 0) := Lib.hid (by simp [countP, hv])
    replace hv := Lib.hid hv
    go_enter Tryz.func76, Tryz.ntmps76
    go_wp2_with (go_at_call 124; refine (valid_calls _ _ hT hs).mono ?_; rw [hv.out]; rintro e w1 ⟨rfl, hb⟩)
    go_loopw [3] (fun v wr => ∃ (pos fuel c : Nat), v = .int .i64 c ∧ wr.heap[w1.heap.size]? = some (.stringIter s pos) ∧ Below w.heap.size w wr ∧ c + countFrom s fuel pos = countP s ∧ c ≤ pos ∧ s.size ≤ pos + fuel) (fun _ wr => s.size - wr.iterPos w1.heap.size)
    case atStart =>
      exact ⟨0, s.size, 0, rfl, World.iter_heap w1 s 0, hb.alloc hb.size _, by rw [hc.out]; omega, by omega, by omega⟩
    case round =>
      obtain ⟨pos, fuel, c, rfl, hit, hbw, hacc, hcp, hfu⟩ := hrel
      replace hacc := Lib.hid hacc
      by_cases hp : pos < s.size
      · have hnx : ∀ ty, (Instr.next (.pointer (some ⟨w1.heap.size, 0, none⟩)) true ty).run Tryz.prog wr = _ := fun ty => Lib.run_next_any_at wr w1.heap.size s pos ty hit hp
        have hwd := width_pos s pos hp
        have hd1 := decode_le s pos
        have hit2 := Lib.iterAt_heap wr w1.heap.size s pos (pos + (Utf8.decode s pos).2) hit
        have hbw2 := Lib.below_iterAt hbw (k := w1.heap.size) hb.size s (pos + (Utf8.decode s pos).2)
        obtain ⟨f, rfl⟩ : ∃ f, fuel = f + 1 := ⟨fuel - 1, by omega⟩
        have hfin : Hid (c + 1 + countFrom s f (pos + (Utf8.decode s pos).2) = countP s) := by refine Lib.hid ?_; rw [← hacc.out]; simp [countFrom, hp]; omega
        go_wp2
        go_roundw
        case rel => exact ⟨pos + (Utf8.decode s pos).2, f, c + 1, by go_num, hit2, hbw2, hfin.out, by omega, by omega⟩
        case measure =>
          simp only [World.iterPos, hit2, hit]
          omega
      · have hnx : ∀ ty, (Instr.next (.pointer (some ⟨w1.heap.size, 0, none⟩)) true ty).run Tryz.prog wr = _ := fun ty => Lib.run_next_end_at wr w1.heap.size s pos ty hit hp
        have hfin : Hid (countP s = c) := by refine Lib.hid ?_; rw [← hacc.out, countFrom_end _ _ _ hp]; omega
        go_wp2
        go_ret
        exact ⟨by rw [hfin.out]; rfl, hbw⟩
  · have hv' : validP s = false := by simpa using hv
    clear hv
    have hc : Hid (countP s = 0) := Lib.hid (by simp [countP, hv'])
    replace hv' := Lib.hid hv'
    go_enter Tryz.func76, Tryz.ntmps76
    go_wp2_with (go_at_call 124; refine (valid_calls _ _ hT hs).mono ?_; rw [hv'.out]; rintro e w1 ⟨rfl, hb⟩)
    go_ret
    exact ⟨by rw [hc.out]; rfl, hb⟩

/-! ### letters, digits, keys -/
def inP (r a b : Int) : Bool := decide (a ≤ r) && decide (r ≤ b)
def letterP (r : Int) : Bool := r == 95 || (!(r == 215 || r == 247 || r == 930) && (inP r 97 122 || inP r 65 90 || inP r 192 591 || inP r 913 969))
def digitP (r : Int) : Bool := inP r 48 57
def keyList : List (List UInt8) := ["schema", "message", "enum", "call", "returns", "reserved", "optional", "repeated", "int32", "int64", "bool", "text", "bytes"].map fun s => s.toUTF8.toList
def keyP (s : ByteArray) : Bool := keyList.contains s.toList

theorem in_calls (r a b : Int) (w : World) : Calls Tryz.prog 125 #[.int .i32 r, .int .i32 a, .int .i32 b] w fun e w' => e = .returned (.bool (inP r a b)) ∧ w' = w := by
  by_cases h : a ≤ r
  · have b1 : decide (a ≤ r) = true := by simpa using h
    go_enter Tryz.func125, Tryz.ntmps125
    go_wp2
    go_ret
    exact ⟨ret_bool (by simp [inP]; omega), rfl⟩
  · have b1 : decide (a ≤ r) = false := by simpa using h
    go_enter Tryz.func125, Tryz.ntmps125
    go_wp2
    go_ret
    exact ⟨ret_bool (by simp [inP]; omega), rfl⟩

theorem digit_calls (r : Int) (w : World) : Calls Tryz.prog 79 #[.int .i32 r] w fun e w' => e = .returned (.bool (digitP r)) ∧ w' = w := by
  go_enter Tryz.func79, Tryz.ntmps79
  go_wp2_with (go_at_call 125; refine (in_calls _ _ _ _).mono ?_; rintro e w' ⟨rfl, rfl⟩)
  go_ret
  exact ⟨rfl, rfl⟩

set_option maxHeartbeats 400000 in
theorem letter_calls (r : Int) (w : World) : Calls Tryz.prog 78 #[.int .i32 r] w fun e w' => e = .returned (.bool (letterP r)) ∧ w' = w := by
  have hd : letterP r = (r == 95 || (!(r == 215 || r == 247 || r == 930) && (inP r 97 122 || inP r 65 90 || inP r 192 591 || inP r 913 969))) := rfl
  generalize h1 : inP r 97 122 = i1 at hd
  generalize h2 : inP r 65 90 = i2 at hd
  generalize h3 : inP r 192 591 = i3 at hd
  generalize h4 : inP r 913 969 = i4 at hd
  have c1 := fun w => in_calls r 97 122 w
  have c2 := fun w => in_calls r 65 90 w
  have c3 := fun w => in_calls r 192 591 w
  have c4 := fun w => in_calls r 913 969 w
  rw [h1] at c1; rw [h2] at c2; rw [h3] at c3; rw [h4] at c4
  clear h1 h2 h3 h4
  replace c1 := Lib.hid c1; replace c2 := Lib.hid c2; replace c3 := Lib.hid c3; replace c4 := Lib.hid c4; replace hd := Lib.hid hd
  by_cases a1 : r = 95
  · have b1 : (r == 95) = true := by simpa using a1
    have hr : Hid (letterP r = true) := Lib.hid (by rw [hd.out, b1]; rfl)
    clear a1
    go_enter Tryz.func78, Tryz.ntmps78
    go_wp2
    go_ret
    exact ⟨ret_bool hr.out.symm, rfl⟩
  have b1 : (r == 95) = false := by simpa using a1
  by_cases a2 : r = 215 ∨ r = 247 ∨ r = 930
  · have hr : Hid (letterP r = false) := by refine Lib.hid ?_; rw [hd.out]; rcases a2 with rfl | rfl | rfl <;> rfl
    rcases a2 with rfl | rfl | rfl
    all_goals
      go_enter Tryz.func78, Tryz.ntmps78
      go_wp2
      go_ret
      exact ⟨ret_bool hr.out.symm, rfl⟩
  have b2 : (r == 215) = false := by simp; omega
  have b3 : (r == 247) = false := by simp; omega
  have b4 : (r == 930) = false := by simp; omega
  have hr : Hid (letterP r = (i1 || i2 || i3 || i4)) := by refine Lib.hid ?_; rw [hd.out, b1, b2, b3, b4]; rfl
  clear a1 a2 hd
  cases i1
  · cases i2
    · cases i3
      · go_enter Tryz.func78, Tryz.ntmps78
        go_wp2_with fail
        refine (c1.out _).mono ?_; rintro e w' ⟨rfl, rfl⟩
        go_wp2_with fail
        refine (c2.out _).mono ?_; rintro e w' ⟨rfl, rfl⟩
        go_wp2_with fail
        refine (c3.out _).mono ?_; rintro e w' ⟨rfl, rfl⟩
        go_wp2_with fail
        refine (c4.out _).mono ?_; rintro e w' ⟨rfl, rfl⟩
        go_wp2
        go_ret
        exact ⟨ret_bool (by rw [hr.out]; simp), rfl⟩
      · go_enter Tryz.func78, Tryz.ntmps78
        go_wp2_with fail
        refine (c1.out _).mono ?_; rintro e w' ⟨rfl, rfl⟩
        go_wp2_with fail
        refine (c2.out _).mono ?_; rintro e w' ⟨rfl, rfl⟩
        go_wp2_with fail
        refine (c3.out _).mono ?_; rintro e w' ⟨rfl, rfl⟩
        go_wp2
        go_ret
        exact ⟨ret_bool (by rw [hr.out]; simp), rfl⟩
    · go_enter Tryz.func78, Tryz.ntmps78
      go_wp2_with fail
      refine (c1.out _).mono ?_; rintro e w' ⟨rfl, rfl⟩
      go_wp2_with fail
      refine (c2.out _).mono ?_; rintro e w' ⟨rfl, rfl⟩
      go_wp2
      go_ret
      exact ⟨ret_bool (by rw [hr.out]; simp), rfl⟩
  · go_enter Tryz.func78, Tryz.ntmps78
    go_wp2_with fail
    refine (c1.out _).mono ?_; rintro e w' ⟨rfl, rfl⟩
    go_wp2
    go_ret
    exact ⟨ret_bool (by rw [hr.out]; simp), rfl⟩

set_option maxHeartbeats 1000000 in
theorem key_calls (s : ByteArray) (w : World) : Calls Tryz.prog 77 #[.string s] w fun e w' => e = .returned (.bool (keyP s)) ∧ w' = w := by
  generalize hk : keyP s = b
  have hk' : keyList.contains s.toList = b := hk
  have hl : keyList = [[115, 99, 104, 101, 109, 97], [109, 101, 115, 115, 97, 103, 101], [101, 110, 117, 109], [99, 97, 108, 108], [114, 101, 116, 117, 114, 110, 115], [114, 101, 115, 101, 114, 118, 101, 100], [111, 112, 116, 105, 111, 110, 97, 108], [114, 101, 112, 101, 97, 116, 101, 100], [105, 110, 116, 51, 50], [105, 110, 116, 54, 52], [98, 111, 111, 108], [116, 101, 120, 116], [98, 121, 116, 101, 115]] := by decide +kernel
  rw [hl] at hk'
  clear hk hl
  replace hk' := Lib.hid hk'
  go_enter Tryz.func77, Tryz.ntmps77
  go_wp2
  all_goals
    go_ret
    refine ⟨ret_bool ?_, rfl⟩
    rw [← hk'.out]
    first
      | (exfalso; simp_all; done)
      | simp only [List.contains_cons, List.contains_nil, Bool.or_false, Bool.or_true, Bool.true_or, Bool.false_or, *]

/-- runes.Name. -/
def okName (p r _ : Nat) : Bool := letterP r || (!(p == 0) && digitP r)
def nameP (s : ByteArray) : Bool := decide (1 ≤ countP s ∧ countP s ≤ 20) && !keyP s && allFrom okName s s.size 0

theorem countP_le (s : ByteArray) : countP s ≤ s.size := by
  unfold countP
  split
  · exact countFrom_le s _ _
  · omega

set_option maxHeartbeats 2000000 in
theorem name_calls (s : ByteArray) (w : World) (hT : Tabs w) (hs : s.size ≤ maxLen) :
    Calls Tryz.prog 48 #[.string s] w fun e w' => e = .returned (.bool (nameP s)) ∧ Below w.heap.size w w' := by
  have hs' := hs
  unfold maxLen at hs'
  have hnp : nameP s = (decide (1 ≤ countP s ∧ countP s ≤ 20) && !keyP s && allFrom okName s s.size 0) := rfl
  have cc := count_calls s w hT hs
  have ck := fun w => key_calls s w
  have hcl := countP_le s
  generalize countP s = c at hnp cc hcl
  generalize keyP s = ky at hnp ck
  replace ck := Lib.hid ck
  replace cc := Lib.hid cc
  by_cases h1 : c < 1
  · have b1 : decide ((c : Int) < 1) = true := by simp; omega
    have hr : Hid (nameP s = false) := by refine Lib.hid ?_; rw [hnp]; simp; omega
    clear hnp
    go_enter Tryz.func48, Tryz.ntmps48
    go_wp2_with fail
    refine cc.out.mono ?_; rintro e w1 ⟨rfl, hb⟩
    go_wp2
    go_ret
    exact ⟨ret_bool hr.out.symm, hb⟩
  have b1 : decide ((c : Int) < 1) = false := by simp; omega
  by_cases h2 : 20 < c
  · have b2 : decide (20 < (c : Int)) = true := by simp; omega
    have hr : Hid (nameP s = false) := by refine Lib.hid ?_; rw [hnp]; simp; omega
    clear hnp
    go_enter Tryz.func48, Tryz.ntmps48
    go_wp2_with fail
    refine cc.out.mono ?_; rintro e w1 ⟨rfl, hb⟩
    go_wp2
    go_ret
    exact ⟨ret_bool hr.out.symm, hb⟩
  have b2 : decide (20 < (c : Int)) = false := by simp; omega
  cases ky
  · have hr : Hid (nameP s = allFrom okName s s.size 0) := by
      refine Lib.hid ?_
      rw [hnp, decide_eq_true (by omega)]; rfl
    clear hnp
    go_enter Tryz.func48, Tryz.ntmps48
    go_wp2_with fail
    refine cc.out.mono ?_; rintro e w1 ⟨rfl, hb⟩
    go_wp2_with fail
    refine (ck.out _).mono ?_; rintro e w2 ⟨rfl, rfl⟩
    go_wp2_with fail
    go_loopw [] (fun wr => ∃ (pos fuel : Nat), wr.heap[w2.heap.size]? = some (.stringIter s pos) ∧ Below w.heap.size w wr ∧ allFrom okName s fuel pos = nameP s ∧ s.size ≤ pos + fuel) (fun wr => s.size - wr.iterPos w2.heap.size)
    case atStart =>
      exact ⟨0, s.size, World.iter_heap w2 s 0, hb.alloc hb.size _, hr.out.symm, by omega⟩
    case round =>
      obtain ⟨pos, fuel, hit, hbw, hacc, hfu⟩ := hrel
      replace hacc := Lib.hid hacc
      by_cases hp : pos < s.size
      · have hnx : ∀ ty, (Instr.next (.pointer (some ⟨w2.heap.size, 0, none⟩)) true ty).run Tryz.prog wr = _ := fun ty => Lib.run_next_any_at wr w2.heap.size s pos ty hit hp
        have hwd := width_pos s pos hp
        have hd1 := decode_le s pos
        have hit2 := Lib.iterAt_heap wr w2.heap.size s pos (pos + (Utf8.decode s pos).2) hit
        have hbw2 := Lib.below_iterAt hbw (k := w2.heap.size) hb.size s (pos + (Utf8.decode s pos).2)
        obtain ⟨f, rfl⟩ : ∃ f, fuel = f + 1 := ⟨fuel - 1, by omega⟩
        have hst : Hid (nameP s = ((letterP (Utf8.decode s pos).1 || (!(pos == 0) && digitP (Utf8.decode s pos).1)) && allFrom okName s f (pos + (Utf8.decode s pos).2))) := by
          refine Lib.hid ?_; rw [← hacc.out]; simp [allFrom, hp, okName]
        have cL := fun w => letter_calls (Utf8.decode s pos).1 w
        have cD := fun w => digit_calls (Utf8.decode s pos).1 w
        generalize hl : letterP (Utf8.decode s pos).1 = lt at cL
        generalize hdg : digitP (Utf8.decode s pos).1 = dg at cD
        replace hl := Lib.hid hl; replace hdg := Lib.hid hdg; replace cL := Lib.hid cL; replace cD := Lib.hid cD
        cases lt
        · by_cases h0 : pos = 0
          · have hfin : Hid (nameP s = false) := by refine Lib.hid ?_; rw [hst.out, hl.out, h0]; rfl
            have b0 : ((pos : Int) == 0) = true := by simp; omega
            clear h0
            go_wp2_with fail
            refine (cL.out _).mono ?_; rintro e w' ⟨rfl, rfl⟩
            go_wp2
            go_ret
            exact ⟨ret_bool hfin.out.symm, hbw2⟩
          · have b0 : ((pos : Int) == 0) = false := by simp; omega
            have b0' : (pos == 0) = false := by simpa using h0
            replace b0' := Lib.hid b0'
            cases dg
            · have hfin : Hid (nameP s = false) := by refine Lib.hid ?_; rw [hst.out, hl.out, hdg.out, b0'.out]; rfl
              go_wp2_with fail
              refine (cL.out _).mono ?_; rintro e w' ⟨rfl, rfl⟩
              go_wp2_with fail
              refine (cD.out _).mono ?_; rintro e w' ⟨rfl, rfl⟩
              go_wp2
              go_ret
              exact ⟨ret_bool hfin.out.symm, hbw2⟩
            · have hfin : Hid (allFrom okName s f (pos + (Utf8.decode s pos).2) = nameP s) := by refine Lib.hid ?_; rw [hst.out, hl.out, hdg.out, b0'.out]; rfl
              go_wp2_with fail
              refine (cL.out _).mono ?_; rintro e w' ⟨rfl, rfl⟩
              go_wp2_with fail
              refine (cD.out _).mono ?_; rintro e w' ⟨rfl, rfl⟩
              go_wp2
              go_roundw
              case rel => exact ⟨pos + (Utf8.decode s pos).2, f, hit2, hbw2, hfin.out, by omega⟩
              case measure =>
                simp only [World.iterPos, hit2, hit]
                omega
        · have hfin : Hid (allFrom okName s f (pos + (Utf8.decode s pos).2) = nameP s) := by refine Lib.hid ?_; rw [hst.out, hl.out]; rfl
          go_wp2_with fail
          refine (cL.out _).mono ?_; rintro e w' ⟨rfl, rfl⟩
          go_wp2
          go_roundw
          case rel => exact ⟨pos + (Utf8.decode s pos).2, f, hit2, hbw2, hfin.out, by omega⟩
          case measure =>
            simp only [World.iterPos, hit2, hit]
            omega
      · have hnx : ∀ ty, (Instr.next (.pointer (some ⟨w2.heap.size, 0, none⟩)) true ty).run Tryz.prog wr = _ := fun ty => Lib.run_next_end_at wr w2.heap.size s pos ty hit hp
        have hfin : Hid (nameP s = true) := by refine Lib.hid ?_; rw [← hacc.out, allFrom_end _ _ _ _ hp]
        go_wp2
        go_ret
        exact ⟨ret_bool hfin.out.symm, hbw⟩
  · have hr : Hid (nameP s = false) := by refine Lib.hid ?_; rw [hnp]; simp
    clear hnp
    go_enter Tryz.func48, Tryz.ntmps48
    go_wp2_with fail
    refine cc.out.mono ?_; rintro e w1 ⟨rfl, hb⟩
    go_wp2_with fail
    refine (ck.out _).mono ?_; rintro e w2 ⟨rfl, rfl⟩
    go_wp2
    go_ret
    exact ⟨ret_bool hr.out.symm, hb⟩


end Go.Proofs.YtkpgaccgcdoijaaGreatDoor

namespace Go.Proofs.YtkpgaccgcdoijaaGreatDoor
open Go.RowKit

def amongP (l s : ByteArray) (c : Int) : Bool := l.data.toList.contains c.toNat.toUInt8

theorem indexByte_contains (l : List UInt8) (c : UInt8) : decide (0 ≤ Lib.indexByte l c) = l.contains c := (Lib.contains_iff_indexByte l c).symm

theorem among_calls (l : ByteArray) (c : Int) (w : World) :
    Calls Tryz.prog 101 #[.string l, .int .u8 c] w fun e w' => e = .returned (.bool (l.data.toList.contains c.toNat.toUInt8)) ∧ w' = w := by
  have hc := indexByte_contains l.data.toList c.toNat.toUInt8
  generalize hq : Lib.indexByte l.data.toList c.toNat.toUInt8 = q at hc
  have cI := Tryz.strings_IndexByte l c w
  rw [hq] at cI
  replace hc := Lib.hid hc
  replace cI := Lib.hid cI
  clear hq
  go_enter Tryz.func101, Tryz.ntmps101
  go_wp2_with fail
  refine cI.out.mono ?_; rintro e w' ⟨rfl, rfl⟩
  go_wp2
  go_ret
  exact ⟨ret_bool hc.out, rfl⟩

def partP (r : Int) : Bool := letterP r || digitP r
def notLine (r : Int) : Bool := !(r == 10)

theorem part_calls (r : Int) (w : World) : Calls Tryz.prog 105 #[.int .i32 r] w fun e w' => e = .returned (.bool (partP r)) ∧ w' = w := by
  have hd : partP r = (letterP r || digitP r) := rfl
  have cL := fun w => letter_calls r w
  have cD := fun w => digit_calls r w
  generalize letterP r = i1 at hd cL
  generalize digitP r = i2 at hd cD
  replace cL := Lib.hid cL; replace cD := Lib.hid cD; replace hd := Lib.hid hd
  cases i1
  · go_enter Tryz.func105, Tryz.ntmps105
    go_wp2_with fail
    refine (cL.out _).mono ?_; rintro e w' ⟨rfl, rfl⟩
    go_wp2_with fail
    refine (cD.out _).mono ?_; rintro e w' ⟨rfl, rfl⟩
    go_wp2
    go_ret
    exact ⟨ret_bool (by rw [hd.out]; simp), rfl⟩
  · go_enter Tryz.func105, Tryz.ntmps105
    go_wp2_with fail
    refine (cL.out _).mono ?_; rintro e w' ⟨rfl, rfl⟩
    go_wp2
    go_ret
    exact ⟨ret_bool (by rw [hd.out]; simp), rfl⟩

theorem notLine_calls (r : Int) (w : World) : Calls Tryz.prog 104 #[.int .i32 r] w fun e w' => e = .returned (.bool (notLine r)) ∧ w' = w := by
  by_cases h : r = 10
  · have b : (r != 10) = false := by simp [h]
    clear h
    go_enter Tryz.func104, Tryz.ntmps104
    go_wp2
    go_ret
    exact ⟨ret_bool (by unfold notLine; rw [← b]; rfl), rfl⟩
  · have b : (r != 10) = true := by simp [h]
    clear h
    go_enter Tryz.func104, Tryz.ntmps104
    go_wp2
    go_ret
    exact ⟨ret_bool (by unfold notLine; rw [← b]; rfl), rfl⟩

/-- How many bytes from a place on are such runes' (the place behind them). -/
def runFrom (ok : Int → Bool) (s : ByteArray) : Nat → Nat → Nat
  | 0, _ => s.size
  | k + 1, p => if p < s.size then (if ok (Utf8.decode s p).1 then runFrom ok s k (p + (Utf8.decode s p).2) else p) else s.size
def runP (ok : Int → Bool) (s : ByteArray) : Nat := runFrom ok s s.size 0
theorem runFrom_end (ok : Int → Bool) (s : ByteArray) (k p : Nat) (h : ¬ p < s.size) : runFrom ok s k p = s.size := by
  cases k with
  | zero => rfl
  | succ f => simp [runFrom, h]
theorem runFrom_le (ok : Int → Bool) (s : ByteArray) : ∀ k p, p ≤ s.size → runFrom ok s k p ≤ s.size
  | 0, _, _ => Nat.le_refl _
  | k + 1, p, h => by
    simp only [runFrom]
    split
    · split
      · rename_i h1 h2
        by_cases h3 : p + (Utf8.decode s p).2 ≤ s.size
        · exact runFrom_le ok s k _ h3
        · rw [runFrom_end _ _ _ _ (by omega)]; exact Nat.le_refl _
      · exact h
    · exact Nat.le_refl _

set_option maxHeartbeats 1000000 in
theorem run_calls (g : Nat) (ok : Int → Bool) (hg : (g = 104 ∧ ok = notLine) ∨ (g = 105 ∧ ok = partP) ∨ (g = 79 ∧ ok = digitP)) (s : ByteArray) (w : World) (hs : s.size ≤ maxLen) :
    Calls Tryz.prog 103 #[.string s, .func (.func g) #[] #[]] w fun e w' => e = .returned (.int .i64 (runP ok s)) ∧ Below w.heap.size w w' := by
  have hs' := hs
  unfold maxLen at hs'
  have cg : ∀ r w, Calls Tryz.prog g #[.int .i32 r] w fun e w' => e = .returned (.bool (ok r)) ∧ w' = w := by
    rcases hg with ⟨rfl, rfl⟩ | ⟨rfl, rfl⟩ | ⟨rfl, rfl⟩
    · exact notLine_calls
    · exact part_calls
    · exact digit_calls
  replace cg := Lib.hid cg
  have hgo : ∀ args w, (callFunc g args).run Tryz.prog w = .ok (.enter g args) w := by
    rcases hg with ⟨rfl, rfl⟩ | ⟨rfl, rfl⟩ | ⟨rfl, rfl⟩ <;> intro args w <;> kernel_rfl
  clear hg
  have hru : runP ok s = runFrom ok s s.size 0 := rfl
  replace hru := Lib.hid hru
  go_enter Tryz.func103, Tryz.ntmps103
  go_wp2
  go_loopw [] (fun wr => ∃ (pos fuel : Nat), wr.heap[w.heap.size]? = some (.stringIter s pos) ∧ Below w.heap.size w wr ∧ runFrom ok s fuel pos = runP ok s ∧ s.size ≤ pos + fuel) (fun wr => s.size - wr.iterPos w.heap.size)
  case atStart =>
    exact ⟨0, s.size, World.iter_heap w s 0, (Below.refl _ w).alloc (Nat.le_refl _) _, hru.out.symm, by omega⟩
  case round =>
    obtain ⟨pos, fuel, hit, hbw, hacc, hfu⟩ := hrel
    replace hacc := Lib.hid hacc
    by_cases hp : pos < s.size
    · have hnx : ∀ ty, (Instr.next (.pointer (some ⟨w.heap.size, 0, none⟩)) true ty).run Tryz.prog wr = _ := fun ty => Lib.run_next_any_at wr w.heap.size s pos ty hit hp
      have hwd := width_pos s pos hp
      have hd1 := decode_le s pos
      have hit2 := Lib.iterAt_heap wr w.heap.size s pos (pos + (Utf8.decode s pos).2) hit
      have hbw2 := Lib.below_iterAt hbw (k := w.heap.size) (Nat.le_refl _) s (pos + (Utf8.decode s pos).2)
      obtain ⟨f, rfl⟩ : ∃ f, fuel = f + 1 := ⟨fuel - 1, by omega⟩
      have hst : Hid (runP ok s = if ok (Utf8.decode s pos).1 then runFrom ok s f (pos + (Utf8.decode s pos).2) else pos) := by
        refine Lib.hid ?_; rw [← hacc.out]; simp [runFrom, hp]
      have cg1 := fun w => cg.out (Utf8.decode s pos).1 w
      generalize ok (Utf8.decode s pos).1 = b at cg1 hst
      replace cg1 := Lib.hid cg1
      cases b
      · have hfin : Hid (runP ok s = pos) := by refine Lib.hid ?_; rw [hst.out]; rfl
        go_wp2_with fail
        refine (cg1.out _).mono ?_; rintro e w' ⟨rfl, rfl⟩
        go_wp2
        go_ret
        exact ⟨ret_int (by rw [hfin.out]), hbw2⟩
      · have hfin : Hid (runFrom ok s f (pos + (Utf8.decode s pos).2) = runP ok s) := by refine Lib.hid ?_; rw [hst.out]; rfl
        go_wp2_with fail
        refine (cg1.out _).mono ?_; rintro e w' ⟨rfl, rfl⟩
        go_wp2
        go_roundw
        case rel => exact ⟨pos + (Utf8.decode s pos).2, f, hit2, hbw2, hfin.out, by omega⟩
        case measure =>
          simp only [World.iterPos, hit2, hit]
          omega
    · have hnx : ∀ ty, (Instr.next (.pointer (some ⟨w.heap.size, 0, none⟩)) true ty).run Tryz.prog wr = _ := fun ty => Lib.run_next_end_at wr w.heap.size s pos ty hit hp
      have hfin : Hid (runP ok s = s.size) := by refine Lib.hid ?_; rw [← hacc.out, runFrom_end _ _ _ _ hp]
      go_wp2
      go_ret
      exact ⟨ret_int (by rw [hfin.out]), hbw⟩

/-! ### lex.Number -/
def numFrom (s : ByteArray) : Nat → Nat → Nat → Option Nat
  | 0, _, n => some n
  | k + 1, p, n => if p < s.size then (if digitP (Utf8.decode s p).1 then numFrom s k (p + (Utf8.decode s p).2) (10 * n + ((Utf8.decode s p).1 - 48)) else none) else some n
def numP (s : ByteArray) : Option Nat := if s.size = 0 ∨ 10 < s.size ∨ (1 < s.size ∧ bt s 0 = 48) then none else numFrom s s.size 0 0
theorem numFrom_end (s : ByteArray) (k p n : Nat) (h : ¬ p < s.size) : numFrom s k p n = some n := by
  cases k with
  | zero => rfl
  | succ f => simp [numFrom, h]
def numN (o : Option Nat) : Int := (o.getD 0 : Nat)

theorem digit_range {r : Int} (h : digitP r = true) : 48 ≤ r ∧ r ≤ 57 := by
  simpa [digitP, inP] using h

set_option maxHeartbeats 1000000 in
theorem number_calls (s : ByteArray) (w : World) (hs : s.size ≤ maxLen) :
    Calls Tryz.prog 161 #[.string s] w fun e w' => e = .returned (.tuple #[.int .i64 (numN (numP s)), .bool (numP s).isSome]) ∧ Below w.heap.size w w' := by
  have hs' := hs
  unfold maxLen at hs'
  have hnp : numP s = if s.size = 0 ∨ 10 < s.size ∨ (1 < s.size ∧ bt s 0 = 48) then none else numFrom s s.size 0 0 := rfl
  by_cases h0 : s.size = 0
  · have hl : s.toList = [] := by rw [Lib.toList_data]; exact List.eq_nil_of_length_eq_zero (by rw [← Lib.size_eq]; exact h0)
    have hr : Hid (numP s = none) := Lib.hid (by rw [hnp, if_pos (.inl h0)])
    clear hnp
    go_enter Tryz.func161, Tryz.ntmps161
    go_wp2
    go_ret2
    exact ⟨by rw [hr.out]; rfl, Below.refl _ _⟩
  have hl : ¬ (s.toList = []) := by
    intro h; apply h0; rw [Lib.toList_data] at h; rw [Lib.size_eq, h]; rfl
  have hl1 : s.toList.isEmpty = false := by simpa using hl
  by_cases h1 : 10 < s.size
  · have b1 : decide ((10 : Int) < (s.size : Int)) = true := by simp; omega
    have b1' : decide (10 < s.size) = true := by simp; omega
    have hr : Hid (numP s = none) := Lib.hid (by rw [hnp, if_pos (.inr (.inl h1))])
    clear hnp
    go_enter Tryz.func161, Tryz.ntmps161
    go_wp2
    go_ret2
    exact ⟨by rw [hr.out]; rfl, Below.refl _ _⟩
  have b1 : decide ((10 : Int) < (s.size : Int)) = false := by simp; omega
  have b1' : decide (10 < s.size) = false := by simp; omega
  have h00 : 0 < s.size := by omega
  have hbt : ∀ h : 0 < s.size, (((s[0]'h).toNat : Nat) : Int) = bt s 0 := fun h => by simp [bt, h]
  by_cases h2 : 1 < s.size ∧ bt s 0 = 48
  · have hr : Hid (numP s = none) := Lib.hid (by rw [hnp, if_pos (.inr (.inr h2))])
    obtain ⟨h2, h3⟩ := h2
    have b2 : decide ((1 : Int) < (s.size : Int)) = true := by simp; omega
    have b2' : decide (1 < s.size) = true := by simp; omega
    have b3 : ((((s[0]'(by omega)).toNat : Nat) : Int) == 48) = true := by rw [hbt]; simpa using h3
    clear hnp h3 hbt
    go_enter Tryz.func161, Tryz.ntmps161
    go_wp2
    go_ret2
    exact ⟨by rw [hr.out]; rfl, Below.refl _ _⟩
  have hr : Hid (numP s = numFrom s s.size 0 0) := Lib.hid (by rw [hnp, if_neg (by omega)])
  clear hnp
  have hway : (decide ((1 : Int) < (s.size : Int)) = false ∧ decide (1 < s.size) = false) ∨ ((decide ((1 : Int) < (s.size : Int)) = true ∧ decide (1 < s.size) = true) ∧ ((((s[0]'h00).toNat : Nat) : Int) == 48) = false) := by
    by_cases h4 : 1 < s.size
    · refine .inr ⟨⟨by simp; omega, by simpa using h4⟩, ?_⟩
      rw [hbt]
      have : ¬ bt s 0 = 48 := fun h => h2 ⟨h4, h⟩
      simpa using this
    · exact .inl ⟨by simp; omega, by simpa using h4⟩
  clear hbt h2
  rcases hway with ⟨b2, b2'⟩ | ⟨⟨b2, b2'⟩, b3⟩
  all_goals
    go_enter Tryz.func161, Tryz.ntmps161
    go_wp2
    go_loopw [4] (fun v wr => ∃ (pos fuel n c : Nat), v = .int .i64 n ∧ wr.heap[w.heap.size]? = some (.stringIter s pos) ∧ Below w.heap.size w wr ∧ numFrom s fuel pos n = numP s ∧ s.size ≤ pos + fuel ∧ n + 1 ≤ 10 ^ c ∧ c ≤ pos) (fun _ wr => s.size - wr.iterPos w.heap.size)
    case atStart =>
      exact ⟨0, s.size, 0, 0, rfl, World.iter_heap w s 0, (Below.refl _ w).alloc (Nat.le_refl _) _, hr.out.symm, by omega, by simp, by omega⟩
    case round =>
      obtain ⟨pos, fuel, n, c, rfl, hit, hbw, hacc, hfu, hn, hcp⟩ := hrel
      replace hacc := Lib.hid hacc
      by_cases hp : pos < s.size
      · have hnx : ∀ ty, (Instr.next (.pointer (some ⟨w.heap.size, 0, none⟩)) true ty).run Tryz.prog wr = _ := fun ty => Lib.run_next_any_at wr w.heap.size s pos ty hit hp
        have hwd := width_pos s pos hp
        have hd1 := decode_le s pos
        have hit2 := Lib.iterAt_heap wr w.heap.size s pos (pos + (Utf8.decode s pos).2) hit
        have hbw2 := Lib.below_iterAt hbw (k := w.heap.size) (Nat.le_refl _) s (pos + (Utf8.decode s pos).2)
        obtain ⟨f, rfl⟩ : ∃ f, fuel = f + 1 := ⟨fuel - 1, by omega⟩
        have hc9 : 10 ^ c ≤ 10 ^ 9 := Nat.pow_le_pow_right (by omega) (by omega)
        have hn9 : n < 1000000000 := by have : (10:Nat) ^ 9 = 1000000000 := rfl; omega
        have hn10 : ∀ d, d ≤ 9 → 10 * n + d + 1 ≤ 10 ^ (c + 1) := by intro d hd; rw [Nat.pow_succ]; omega
        replace hn10 := Lib.hid hn10
        clear hc9 hn
        have cg1 := fun w => digit_calls (Utf8.decode s pos).1 w
        have hst : Hid (numP s = if digitP (Utf8.decode s pos).1 then numFrom s f (pos + (Utf8.decode s pos).2) (10 * n + ((Utf8.decode s pos).1 - 48)) else none) := by
          refine Lib.hid ?_; rw [← hacc.out]; simp [numFrom, hp]
        have hrg : Hid (digitP (Utf8.decode s pos).1 = true → _) := Lib.hid (digit_range (r := (Utf8.decode s pos).1))
        generalize digitP (Utf8.decode s pos).1 = b at cg1 hst hrg
        replace cg1 := Lib.hid cg1
        cases b
        · have hfin : Hid (numP s = none) := by refine Lib.hid ?_; rw [hst.out]; rfl
          go_wp2_with fail
          refine (cg1.out _).mono ?_; rintro e w' ⟨rfl, rfl⟩
          go_wp2
          go_ret2
          exact ⟨by rw [hfin.out]; rfl, hbw2⟩
        · have hfin : Hid (numFrom s f (pos + (Utf8.decode s pos).2) (10 * n + ((Utf8.decode s pos).1 - 48)) = numP s) := by refine Lib.hid ?_; rw [hst.out]; rfl
          obtain ⟨hr1, hr2⟩ := hrg.out rfl
          go_wp2_with fail
          refine (cg1.out _).mono ?_; rintro e w' ⟨rfl, rfl⟩
          go_wp2
          go_roundw
          case rel => exact ⟨pos + (Utf8.decode s pos).2, f, 10 * n + ((Utf8.decode s pos).1 - 48), c + 1, v_int (by omega), hit2, hbw2, hfin.out, by omega, hn10.out _ (by omega), by omega⟩
          case measure =>
            simp only [World.iterPos, hit2, hit]
            omega
      · have hnx : ∀ ty, (Instr.next (.pointer (some ⟨w.heap.size, 0, none⟩)) true ty).run Tryz.prog wr = _ := fun ty => Lib.run_next_end_at wr w.heap.size s pos ty hit hp
        have hfin : Hid (numP s = some n) := by refine Lib.hid ?_; rw [← hacc.out, numFrom_end _ _ _ _ hp]
        clear hn
        go_wp2
        go_ret2
        exact ⟨by rw [hfin.out]; rfl, hbw⟩


end Go.Proofs.YtkpgaccgcdoijaaGreatDoor

namespace Go.Proofs.YtkpgaccgcdoijaaGreatDoor
open Go.RowKit

structure Tok where
  kind : Nat
  text : ByteArray
  pos : Nat
def tokCells (t : Tok) : List Value := [.int .i64 t.kind, .string t.text, .int .i64 t.pos]
def toksCells (l : List Tok) : List Value := l.flatMap tokCells

def blankB (x : UInt8) : Bool := [32, 9, 13, 10].contains x
def signB (x : UInt8) : Bool := [123, 125, 40, 41, 59, 61, 44].contains x
def slashB (s : ByteArray) (p : Nat) : Bool := Lib.hasPrefix (s.extract p s.size).data.toList [47, 47]

/-- What stands at a place: an error, or a token's kind (0: none) and how many bytes. -/
def tokStep (s : ByteArray) (p : Nat) : Int × Nat × Nat :=
  if (nextP s p).2.2 = false then (9, 0, 0)
  else if blankB (s.get! p) then (0, 0, 1)
  else if slashB s p then (0, 0, runP notLine (s.extract p s.size))
  else if letterP (Utf8.decode s p).1 then (0, 1, runP partP (s.extract p s.size))
  else if digitP (Utf8.decode s p).1 then (0, 2, runP digitP (s.extract p s.size))
  else if signB (s.get! p) then (0, 3, 1)
  else (5, 0, 0)

def tokFrom (s : ByteArray) : Nat → Nat → List Tok → List Tok × Int × Int
  | 0, _, acc => (acc, 0, 0)
  | k + 1, p, acc => if p < s.size then
      (if (tokStep s p).1 ≠ 0 then ([], p, (tokStep s p).1)
       else tokFrom s k (p + (tokStep s p).2.2) (if (tokStep s p).2.1 ≠ 0 then acc ++ [⟨(tokStep s p).2.1, s.extract p (p + (tokStep s p).2.2), p⟩] else acc))
    else (acc, 0, 0)
def tokensP (s : ByteArray) : List Tok × Int × Int := if 16384 < s.size then ([], 0, 4) else tokFrom s s.size 0 []

theorem tokFrom_end (s : ByteArray) (k p : Nat) (acc : List Tok) (h : ¬ p < s.size) : tokFrom s k p acc = (acc, 0, 0) := by
  cases k with
  | zero => rfl
  | succ f => simp [tokFrom, h]

theorem decode_extract (s : ByteArray) (p : Nat) (h : p < s.size) : Utf8.decode (s.extract p s.size) 0 = Utf8.decode s p := by
  have hz : (s.extract p s.size).size = s.size - p := by simp
  have := decodeGo_drop s p h
  unfold Lib.decodeGo at this
  rwa [if_neg (by omega)] at this

theorem width_le (s : ByteArray) (p : Nat) (h : p < s.size) : p + (Utf8.decode s p).2 ≤ s.size := by
  rw [Lib.decode_at]
  unfold Lib.decodeN
  repeat' split
  all_goals (simp only; omega)

theorem run_range (ok : Int → Bool) (s : ByteArray) (p : Nat) (h : p < s.size) (hok : ok (Utf8.decode s p).1 = true) : 1 ≤ runP ok (s.extract p s.size) ∧ p + runP ok (s.extract p s.size) ≤ s.size := by
  have hz : (s.extract p s.size).size = s.size - p := by simp
  have hge : ∀ k q, runFrom ok (s.extract p s.size) k q ≥ min q (s.size - p) := by
    intro k
    induction k with
    | zero => intro q; simp only [runFrom]; omega
    | succ k ih =>
      intro q
      simp only [runFrom]
      split
      · split
        · have := ih (q + (Utf8.decode (s.extract p s.size) q).2); omega
        · omega
      · omega
  have hle := runFrom_le ok (s.extract p s.size) (s.extract p s.size).size 0 (by omega)
  refine ⟨?_, by unfold runP; omega⟩
  unfold runP
  obtain ⟨m, hm⟩ : ∃ m, (s.extract p s.size).size = m + 1 := ⟨_, (Nat.succ_pred_eq_of_pos (by omega)).symm⟩
  rw [hm]
  simp only [runFrom]
  rw [if_pos (by omega), decode_extract s p h, hok, if_pos rfl]
  have := hge m (0 + (Utf8.decode s p).2)
  have hw := width_pos s p h
  omega

theorem nextP_one (s : ByteArray) (n : Nat) (h : n < s.size) (hok : (nextP s n).2.2 = true) : (nextP s n).1 = (Utf8.decode s n).1 := by
  unfold nextP at hok ⊢
  rw [if_neg (by omega), Int.toNat_natCast] at hok ⊢
  split
  · rename_i h1; rw [if_pos h1] at hok; cases hok
  · rfl

theorem among_byte (l : ByteArray) (x : UInt8) (w : World) :
    Calls Tryz.prog 101 #[.string l, .int .u8 (x.toNat : Int)] w fun e w' => e = .returned (.bool (l.data.toList.contains x)) ∧ w' = w := by
  have h := among_calls l (x.toNat : Int) w
  have e : ((x.toNat : Int)).toNat.toUInt8 = x := by simp
  rwa [e] at h

def TokPost (B : Nat) (w : World) (r : List Tok × Int × Int) (e : Ending) (w' : World) : Prop :=
  ∃ v, e = .returned (.tuple #[v, .int .i64 r.2.1, .int .i64 r.2.2]) ∧ w'.ownsRow B 115 3 v r.1.length (toksCells r.1) ∧ Below B w w'

theorem grown_of_belowB {w w1 : World} (h : Below w.heap.size w w1) (row : Option Nat) : w.grownBy w1 row := ⟨h.os, h.tape, h.output, h.size, fun i hi _ => h.block i hi⟩

theorem slash_notLine (s : ByteArray) (p : Nat) (hp : p < s.size) (h : slashB s p = true) : notLine (Utf8.decode s p).1 = true := by
  unfold slashB Lib.hasPrefix at h
  rw [List.isPrefixOf_iff_prefix] at h
  obtain ⟨t, ht⟩ := h
  rw [Lib.extract_data] at ht
  have h0 : ((s.data.toList.drop p).take (s.size - p))[0]? = some 47 := by rw [← ht]; rfl
  have hb : s[p]'hp = 47 := by
    rw [List.getElem?_take_of_lt (by omega), List.getElem?_drop, Nat.add_zero] at h0
    have h1 : s.data.toList[p]? = some (s[p]'hp) := by
      rw [Array.getElem?_toList, Array.getElem?_eq_getElem (by simpa using hp)]; rfl
    rw [h1] at h0
    exact Option.some.inj h0
  rw [decode_ascii s p hp (by rw [hb]; decide), hb]
  rfl

theorem infoTok : (Tryz.prog.info? 115).map (fun i => (i.zero, i.size, i.bytes)) = some (some (.agg #[(.int .i64 0), (.string ⟨#[]⟩), (.int .i64 0)]), 3, 32) := by kernel_rfl

theorem toksCells_snoc (l : List Tok) (t : Tok) : toksCells (l ++ [t]) = toksCells l ++ tokCells t := by simp [toksCells]

set_option maxHeartbeats 4000000 in
set_option maxRecDepth 100000 in
theorem tokens_calls (s : ByteArray) (w : World) (hT : Tabs w) (hs : s.size ≤ maxLen) :
    Calls Tryz.prog 65 #[.string s] w (TokPost w.heap.size w (tokensP s)) := by
  have hs' := hs
  unfold maxLen at hs'
  have htp : tokensP s = if 16384 < s.size then ([], 0, 4) else tokFrom s s.size 0 [] := rfl
  by_cases h0 : 16384 < s.size
  · have b0 : decide ((16384 : Int) < (s.size : Int)) = true := by simp; omega
    have b0' : decide (16384 < s.size) = true := by simp; omega
    have hr : Hid (tokensP s = ([], 0, 4)) := Lib.hid (by rw [htp, if_pos h0])
    clear htp
    go_enter Tryz.func65, Tryz.ntmps65
    go_wp2
    refine bodyPost_ret (v := .tuple #[.slice none 0 0, .int .i64 0, .int .i64 4]) (by simp [results, Tryz.results65, go_sem]) rfl ?_
    rw [hr.out]
    exact ⟨_, rfl, World.ownsRow_nil _ _ _ _, Below.refl _ _⟩
  have b0 : decide ((16384 : Int) < (s.size : Int)) = false := by simp; omega
  have b0' : decide (16384 < s.size) = false := by simp; omega
  have hr : Hid (tokensP s = tokFrom s s.size 0 []) := Lib.hid (by rw [htp, if_neg h0])
  clear htp
  have hz16 : s.size ≤ 16384 := by omega
  go_enter Tryz.func65, Tryz.ntmps65
  go_wp2
  go_loopw [5, 6] (fun v i wr => ∃ (p fuel : Nat) (acc : List Tok), i = .int .i64 p ∧ wr.ownsRow w.heap.size 115 3 v acc.length (toksCells acc) ∧ Below w.heap.size w wr ∧ tokFrom s fuel p acc = tokensP s ∧ s.size ≤ p + fuel ∧ p ≤ s.size ∧ acc.length ≤ p) (fun _ i _ => s.size - (intOf i).toNat)
  case atStart =>
    exact ⟨0, s.size, [], rfl, World.ownsRow_nil _ _ _ _, Below.refl _ w, hr.out.symm, by omega, by omega, by simp⟩
  case round =>
    obtain ⟨p, fuel, acc, rfl, hown, hbw, hacc, hfu, hps, hal⟩ := hrel
    replace hacc := Lib.hid hacc
    have hsz := hbw.size
    by_cases hp : p < s.size
    · have bp : decide ((p : Int) < (s.size : Int)) = true := by simp; omega
      have bp' : decide (p < s.size) = true := by simp; omega
      obtain ⟨f, rfl⟩ : ∃ f, fuel = f + 1 := ⟨fuel - 1, by omega⟩
      have hTr := Lib.hid (hT.below hbw)
      have hst : Hid (tokensP s = if (tokStep s p).1 ≠ 0 then ([], (p : Int), (tokStep s p).1)
          else tokFrom s f (p + (tokStep s p).2.2) (if (tokStep s p).2.1 ≠ 0 then acc ++ [⟨(tokStep s p).2.1, s.extract p (p + (tokStep s p).2.2), p⟩] else acc)) := by
        refine Lib.hid ?_; rw [← hacc.out]; simp only [tokFrom]; rw [if_pos hp]
      have htk : Hid (tokStep s p = _) := Lib.hid (by unfold tokStep; rfl)
      have cN := next_calls s (p : Int) wr hTr.out hs
      have hn1 := nextP_one s p hp
      cases hok : (nextP s p).2.2
      · have hfin : Hid (tokensP s = ([], (p : Int), 9)) := by
          refine Lib.hid ?_; rw [hst.out, htk.out, hok]; rfl
        rw [hok] at cN
        replace cN := Lib.hid cN
        clear hn1 hok
        go_wp2_with fail
        refine cN.out.mono ?_; rintro e w1 ⟨rfl, hb⟩
        go_wp2
        refine bodyPost_ret (v := .tuple #[.slice none 0 0, .int .i64 p, .int .i64 9]) (by simp [results, Tryz.results65, go_sem]) rfl ?_
        rw [hfin.out]
        exact ⟨_, rfl, World.ownsRow_nil _ _ _ _, hbw.trans (hb.mono hsz)⟩
      · rw [hok, hn1 hok] at cN
        replace cN := Lib.hid cN
        have hbyte : s[p]'hp = s.get! p := (Utf8W.get!_of_lt s p hp).symm
        rw [hok, ← hbyte] at htk
        have cB : ∀ W, Calls Tryz.prog 101 #[.string ⟨#[32, 9, 13, 10]⟩, .int .u8 ((s[p]'hp).toNat : Int)] W fun e w' => e = .returned (.bool (blankB (s[p]'hp))) ∧ w' = W := fun W => among_byte ⟨#[32, 9, 13, 10]⟩ (s[p]'hp) W
        have cS : ∀ W, Calls Tryz.prog 101 #[.string ⟨#[123, 125, 40, 41, 59, 61, 44]⟩, .int .u8 ((s[p]'hp).toNat : Int)] W fun e w' => e = .returned (.bool (signB (s[p]'hp))) ∧ w' = W := fun W => among_byte ⟨#[123, 125, 40, 41, 59, 61, 44]⟩ (s[p]'hp) W
        have cH : ∀ W, Calls Tryz.prog 102 #[.string (s.extract p s.size), .string ⟨#[47, 47]⟩] W fun e w' => e = .returned (.bool (slashB s p)) ∧ w' = W := fun W => Tryz.strings_HasPrefix (s.extract p s.size) ⟨#[47, 47]⟩ W
        have cL : ∀ W, Calls Tryz.prog 78 #[.int .i32 ((Utf8.decode s p).1 : Int)] W fun e w' => e = .returned (.bool (letterP (Utf8.decode s p).1)) ∧ w' = W := fun W => letter_calls _ W
        have cD : ∀ W, Calls Tryz.prog 79 #[.int .i32 ((Utf8.decode s p).1 : Int)] W fun e w' => e = .returned (.bool (digitP (Utf8.decode s p).1)) ∧ w' = W := fun W => digit_calls _ W
        have hxs : (s.extract p s.size).size ≤ maxLen := by unfold maxLen; simp; omega
        have cR1 : ∀ W, Calls Tryz.prog 103 #[.string (s.extract p s.size), .func (.func 104) #[] #[]] W fun e w' => e = .returned (.int .i64 (runP notLine (s.extract p s.size))) ∧ Below W.heap.size W w' := fun W => run_calls _ _ (.inl ⟨rfl, rfl⟩) _ W hxs
        have cR2 : ∀ W, Calls Tryz.prog 103 #[.string (s.extract p s.size), .func (.func 105) #[] #[]] W fun e w' => e = .returned (.int .i64 (runP partP (s.extract p s.size))) ∧ Below W.heap.size W w' := fun W => run_calls _ _ (.inr (.inl ⟨rfl, rfl⟩)) _ W hxs
        have cR3 : ∀ W, Calls Tryz.prog 103 #[.string (s.extract p s.size), .func (.func 79) #[] #[]] W fun e w' => e = .returned (.int .i64 (runP digitP (s.extract p s.size))) ∧ Below W.heap.size W w' := fun W => run_calls _ _ (.inr (.inr ⟨rfl, rfl⟩)) _ W hxs
        have hR1 : slashB s p = true → 1 ≤ runP notLine (s.extract p s.size) ∧ p + runP notLine (s.extract p s.size) ≤ s.size := fun h => run_range _ _ _ hp (slash_notLine s p hp h)
        have hR2 : letterP (Utf8.decode s p).1 = true → 1 ≤ runP partP (s.extract p s.size) ∧ p + runP partP (s.extract p s.size) ≤ s.size := fun h => run_range _ _ _ hp (by simp [partP, h])
        have hR3 : digitP (Utf8.decode s p).1 = true → 1 ≤ runP digitP (s.extract p s.size) ∧ p + runP digitP (s.extract p s.size) ≤ s.size := fun h => run_range _ _ _ hp h
        clear hn1 hok hbyte
        generalize blankB (s[p]'hp) = qb at htk cB
        generalize signB (s[p]'hp) = qs at htk cS
        generalize slashB s p = qh at htk cH hR1
        generalize letterP (Utf8.decode s p).1 = ql at htk cL hR2
        generalize digitP (Utf8.decode s p).1 = qd at htk cD hR3
        generalize runP notLine (s.extract p s.size) = n1 at htk cR1 hR1
        generalize runP partP (s.extract p s.size) = n2 at htk cR2 hR2
        generalize runP digitP (s.extract p s.size) = n3 at htk cR3 hR3
        replace cB := Lib.hid cB; replace cS := Lib.hid cS; replace cH := Lib.hid cH; replace cL := Lib.hid cL; replace cD := Lib.hid cD; replace cR1 := Lib.hid cR1; replace cR2 := Lib.hid cR2; replace cR3 := Lib.hid cR3
        replace hR1 := Lib.hid hR1; replace hR2 := Lib.hid hR2; replace hR3 := Lib.hid hR3
        cases qb
        · cases qh
          · cases ql
            · cases qd
              · cases qs
                · have hfin : Hid (tokensP s = ([], (p : Int), 5)) := by refine Lib.hid ?_; rw [hst.out, htk.out]; rfl
                  go_wp2_with fail
                  refine cN.out.mono ?_; rintro e w1 ⟨rfl, hb⟩
                  have hown1 := Lib.hid (hown.kept (grown_of_belowB hb none) (by cases u5.ownBlock <;> simp))
                  go_wp2_with fail
                  refine (cB.out _).mono ?_; rintro e w1 ⟨rfl, rfl⟩
                  go_wp2_with fail
                  refine (cH.out _).mono ?_; rintro e w1 ⟨rfl, rfl⟩
                  go_wp2_with fail
                  refine (cL.out _).mono ?_; rintro e w1 ⟨rfl, rfl⟩
                  go_wp2_with fail
                  refine (cD.out _).mono ?_; rintro e w1 ⟨rfl, rfl⟩
                  go_wp2_with fail
                  refine (cS.out _).mono ?_; rintro e w1 ⟨rfl, rfl⟩
                  go_wp2
                  refine bodyPost_ret (v := .tuple #[.slice none 0 0, .int .i64 p, .int .i64 5]) (by simp [results, Tryz.results65, go_sem]) rfl ?_
                  rw [hfin.out]
                  exact ⟨_, rfl, World.ownsRow_nil _ _ _ _, hbw.trans (hb.mono hsz)⟩
                · have hfin : Hid (tokFrom s f (p + 1) (acc ++ [⟨3, s.extract p (p + 1), p⟩]) = tokensP s) := by refine Lib.hid ?_; rw [hst.out, htk.out]; rfl
                  go_wp2_with fail
                  refine cN.out.mono ?_; rintro e w1 ⟨rfl, hb⟩
                  have hown1 := Lib.hid (hown.kept (grown_of_belowB hb none) (by cases u5.ownBlock <;> simp))
                  go_wp2_with fail
                  refine (cB.out _).mono ?_; rintro e w1 ⟨rfl, rfl⟩
                  go_wp2_with fail
                  refine (cH.out _).mono ?_; rintro e w1 ⟨rfl, rfl⟩
                  go_wp2_with fail
                  refine (cL.out _).mono ?_; rintro e w1 ⟨rfl, rfl⟩
                  go_wp2_with fail
                  refine (cD.out _).mono ?_; rintro e w1 ⟨rfl, rfl⟩
                  go_wp2_with fail
                  refine (cS.out _).mono ?_; rintro e w1 ⟨rfl, rfl⟩
                  have hsz2 : w.heap.size ≤ w1.heap.size := Nat.le_trans hsz hb.size
                  have hsl := slice_str (P := Tryz.prog) (t := 9) Tryz.underlying9 s p ((p : Int) + 1) (p + 1) (by omega) (by omega) (by omega)
                  go_wp2_with (at_builtin; refine wpList_push rfl _ _ _ rfl w.heap.size w.heap.size 115 _ 3 32 Tryz.underlying105 infoTok rfl (by decide) (by decide) u5 acc.length (toksCells acc) #[.int .i64 3, .string (s.extract p (p + 1)), .int .i64 p] rfl hown1.out rfl rfl (by simp [Value.oneCell']) (by omega) hsz2 (Nat.le_refl _) (hbw.trans (hb.mono hsz)) ?_; intro v' w3 hown3 hg3 hb3 _)
                  go_roundw
                  case rel => exact ⟨p + 1, f, acc ++ [⟨3, s.extract p (p + 1), p⟩], by go_num, by rw [toksCells_snoc, List.length_append]; exact hown3, hb3, hfin.out, by omega, by omega, by simp; omega⟩
                  case measure => simp [intOf]; omega
              · have hfin : Hid (tokFrom s f (p + n3) (acc ++ [⟨2, s.extract p (p + n3), p⟩]) = tokensP s) := by refine Lib.hid ?_; rw [hst.out, htk.out]; rfl
                obtain ⟨hn1, hn2⟩ := hR3.out rfl
                go_wp2_with fail
                refine cN.out.mono ?_; rintro e w1 ⟨rfl, hb⟩
                have hown1 := Lib.hid (hown.kept (grown_of_belowB hb none) (by cases u5.ownBlock <;> simp))
                go_wp2_with fail
                refine (cB.out _).mono ?_; rintro e w1 ⟨rfl, rfl⟩
                go_wp2_with fail
                refine (cH.out _).mono ?_; rintro e w1 ⟨rfl, rfl⟩
                go_wp2_with fail
                refine (cL.out _).mono ?_; rintro e w1 ⟨rfl, rfl⟩
                go_wp2_with fail
                refine (cD.out _).mono ?_; rintro e w1 ⟨rfl, rfl⟩
                go_wp2_with fail
                refine (cR3.out _).mono ?_; rintro e w2 ⟨rfl, hb2⟩
                have hsz2 : w.heap.size ≤ w2.heap.size := Nat.le_trans (Nat.le_trans hsz hb.size) hb2.size
                have hsl := slice_str (P := Tryz.prog) (t := 9) Tryz.underlying9 s p ((p : Int) + (n3 : Int)) (p + n3) (by omega) (by omega) (by omega)
                go_wp2_with (at_builtin; refine wpList_push rfl _ _ _ rfl w.heap.size w.heap.size 115 _ 3 32 Tryz.underlying105 infoTok rfl (by decide) (by decide) u5 acc.length (toksCells acc) #[.int .i64 2, .string (s.extract p (p + n3)), .int .i64 p] rfl (hown1.out.kept (grown_of_belowB hb2 none) (by cases u5.ownBlock <;> simp)) rfl rfl (by simp [Value.oneCell']) (by omega) hsz2 (Nat.le_refl _) ((hbw.trans (hb.mono hsz)).trans (hb2.mono (Nat.le_trans hsz hb.size))) ?_; intro v' w3 hown3 hg3 hb3 _)
                go_roundw
                case rel => exact ⟨p + n3, f, acc ++ [⟨2, s.extract p (p + n3), p⟩], by go_num, by rw [toksCells_snoc, List.length_append]; exact hown3, hb3, hfin.out, by omega, by omega, by simp; omega⟩
                case measure => simp [intOf]; omega
            · have hfin : Hid (tokFrom s f (p + n2) (acc ++ [⟨1, s.extract p (p + n2), p⟩]) = tokensP s) := by refine Lib.hid ?_; rw [hst.out, htk.out]; rfl
              obtain ⟨hn1, hn2⟩ := hR2.out rfl
              go_wp2_with fail
              refine cN.out.mono ?_; rintro e w1 ⟨rfl, hb⟩
              have hown1 := Lib.hid (hown.kept (grown_of_belowB hb none) (by cases u5.ownBlock <;> simp))
              go_wp2_with fail
              refine (cB.out _).mono ?_; rintro e w1 ⟨rfl, rfl⟩
              go_wp2_with fail
              refine (cH.out _).mono ?_; rintro e w1 ⟨rfl, rfl⟩
              go_wp2_with fail
              refine (cL.out _).mono ?_; rintro e w1 ⟨rfl, rfl⟩
              go_wp2_with fail
              refine (cR2.out _).mono ?_; rintro e w2 ⟨rfl, hb2⟩
              have hsz2 : w.heap.size ≤ w2.heap.size := Nat.le_trans (Nat.le_trans hsz hb.size) hb2.size
              have hsl := slice_str (P := Tryz.prog) (t := 9) Tryz.underlying9 s p ((p : Int) + (n2 : Int)) (p + n2) (by omega) (by omega) (by omega)
              go_wp2_with (at_builtin; refine wpList_push rfl _ _ _ rfl w.heap.size w.heap.size 115 _ 3 32 Tryz.underlying105 infoTok rfl (by decide) (by decide) u5 acc.length (toksCells acc) #[.int .i64 1, .string (s.extract p (p + n2)), .int .i64 p] rfl (hown1.out.kept (grown_of_belowB hb2 none) (by cases u5.ownBlock <;> simp)) rfl rfl (by simp [Value.oneCell']) (by omega) hsz2 (Nat.le_refl _) ((hbw.trans (hb.mono hsz)).trans (hb2.mono (Nat.le_trans hsz hb.size))) ?_; intro v' w3 hown3 hg3 hb3 _)
              go_roundw
              case rel => exact ⟨p + n2, f, acc ++ [⟨1, s.extract p (p + n2), p⟩], by go_num, by rw [toksCells_snoc, List.length_append]; exact hown3, hb3, hfin.out, by omega, by omega, by simp; omega⟩
              case measure => simp [intOf]; omega
          · have hfin : Hid (tokFrom s f (p + n1) acc = tokensP s) := by refine Lib.hid ?_; rw [hst.out, htk.out]; rfl
            obtain ⟨hn1, hn2⟩ := hR1.out rfl
            go_wp2_with fail
            refine cN.out.mono ?_; rintro e w1 ⟨rfl, hb⟩
            have hown1 := Lib.hid (hown.kept (grown_of_belowB hb none) (by cases u5.ownBlock <;> simp))
            go_wp2_with fail
            refine (cB.out _).mono ?_; rintro e w1 ⟨rfl, rfl⟩
            go_wp2_with fail
            refine (cH.out _).mono ?_; rintro e w1 ⟨rfl, rfl⟩
            go_wp2_with fail
            refine (cR1.out _).mono ?_; rintro e w2 ⟨rfl, hb2⟩
            go_wp2
            go_roundw
            case rel => exact ⟨p + n1, f, acc, by go_num, (hown1.out.kept (grown_of_belowB hb2 none) (by cases u5.ownBlock <;> simp)), (hbw.trans (hb.mono hsz)).trans (hb2.mono (Nat.le_trans hsz hb.size)), hfin.out, by omega, by omega, by omega⟩
            case measure => simp [intOf]; omega
        · have hfin : Hid (tokFrom s f (p + 1) acc = tokensP s) := by refine Lib.hid ?_; rw [hst.out, htk.out]; rfl
          go_wp2_with fail
          refine cN.out.mono ?_; rintro e w1 ⟨rfl, hb⟩
          have hown1 := Lib.hid (hown.kept (grown_of_belowB hb none) (by cases u5.ownBlock <;> simp))
          go_wp2_with fail
          refine (cB.out _).mono ?_; rintro e w1 ⟨rfl, rfl⟩
          go_wp2
          go_roundw
          case rel => exact ⟨p + 1, f, acc, by go_num, hown1.out, hbw.trans (hb.mono hsz), hfin.out, by omega, by omega, by omega⟩
          case measure => simp [intOf]; omega
    · have bp : decide ((p : Int) < (s.size : Int)) = false := by simp; omega
      have bp' : decide (p < s.size) = false := by simp; omega
      have hfin : Hid (tokensP s = (acc, 0, 0)) := by refine Lib.hid ?_; rw [← hacc.out, tokFrom_end _ _ _ _ hp]
      go_wp2
      refine bodyPost_ret (v := .tuple #[u5, .int .i64 0, .int .i64 0]) (by simp [results, Tryz.results65, go_sem]) rfl ?_
      rw [hfin.out]
      exact ⟨_, rfl, hown, hbw⟩


end Go.Proofs.YtkpgaccgcdoijaaGreatDoor

namespace Go.Proofs.YtkpgaccgcdoijaaGreatDoor
open Go.RowKit

/-! ### schemas, as plain data -/
structure FieldD where
  name : ByteArray
  tag : Int
  label : Int
  kind : Int
  tname : ByteArray
structure MessageD where
  name : ByteArray
  fields : List FieldD
  reserved : List Int
structure NamedD where
  name : ByteArray
  n : Int
structure EnumD where
  name : ByteArray
  values : List NamedD
structure MethodD where
  name : ByteArray
  inp : ByteArray
  outp : ByteArray
structure SchemaD where
  name : ByteArray
  messages : List MessageD
  enums : List EnumD
  methods : List MethodD

def noText : ByteArray := ⟨#[]⟩

/-! ### the parser -/
structure St where
  l : List Tok
  bad : Bool
def St.m (s : St) : Nat := 2 * s.l.length + if s.bad then 0 else 1

def looksB (t : ByteArray) (s : St) : Bool := !s.bad && match s.l with
  | k :: _ => k.text.toList == t.toList
  | [] => false
def takesS (t : ByteArray) (s : St) : St := if looksB t s then ⟨s.l.tail, s.bad⟩ else s
def needS (t : ByteArray) (s : St) : St := if looksB t s then ⟨s.l.tail, s.bad⟩ else ⟨s.l, true⟩
def needsS (ts : List ByteArray) (s : St) : St := ts.foldl (fun s t => needS t s) s

def nameOk (s : St) : Bool := !s.bad && match s.l with
  | k :: _ => decide (k.kind = 1) && nameP k.text
  | [] => false
def nameV (s : St) : ByteArray := if nameOk s then (match s.l with | k :: _ => k.text | [] => noText) else noText
def nameS (s : St) : St := if nameOk s then ⟨s.l.tail, s.bad⟩ else ⟨s.l, true⟩

def numberO (s : St) : Option Nat := if s.bad then none else match s.l with
  | k :: _ => if k.kind = 2 then numP k.text else none
  | [] => none
def numberV (s : St) : Int := numN (numberO s)
def numberS (s : St) : St := if (numberO s).isSome then ⟨s.l.tail, s.bad⟩ else ⟨s.l, true⟩

theorem takesS_m (t : ByteArray) (s : St) : (takesS t s).m ≤ s.m := by
  unfold takesS St.m
  split
  · simp only [List.length_tail]; omega
  · exact Nat.le_refl _
theorem takesS_lt (t : ByteArray) (s : St) (h : looksB t s = true) : (takesS t s).m < s.m := by
  unfold takesS St.m
  rw [if_pos h]
  have : s.l ≠ [] := by
    intro h0
    simp [looksB, h0] at h
  have := List.length_pos_iff.2 this
  simp only [List.length_tail]; omega
theorem needS_m (t : ByteArray) (s : St) : (needS t s).m ≤ s.m := by
  unfold needS St.m
  split
  · simp only [List.length_tail]; omega
  · simp
theorem needsS_m (ts : List ByteArray) : ∀ (s : St), (needsS ts s).m ≤ s.m := by
  induction ts with
  | nil => intro s; exact Nat.le_refl _
  | cons t r ih => intro s; exact Nat.le_trans (ih (needS t s)) (needS_m t s)
theorem nameS_lt (s : St) (h : s.bad = false) : (nameS s).m < s.m := by
  unfold nameS St.m
  split
  · rename_i h1
    have : s.l ≠ [] := by
      intro h0
      simp [nameOk, h0] at h1
    have := List.length_pos_iff.2 this
    simp only [List.length_tail]; omega
  · simp [h]
theorem nameS_m (s : St) : (nameS s).m ≤ s.m := by
  cases h : s.bad
  · exact Nat.le_of_lt (nameS_lt s h)
  · unfold nameS St.m
    split
    · simp only [List.length_tail]; omega
    · simp
theorem numberS_m (s : St) : (numberS s).m ≤ s.m := by
  unfold numberS St.m
  split
  · simp only [List.length_tail]; omega
  · simp

def w_int32 : ByteArray := ⟨#[105, 110, 116, 51, 50]⟩
def w_int64 : ByteArray := ⟨#[105, 110, 116, 54, 52]⟩
def w_bool : ByteArray := ⟨#[98, 111, 111, 108]⟩
def w_text : ByteArray := ⟨#[116, 101, 120, 116]⟩
def w_bytes : ByteArray := ⟨#[98, 121, 116, 101, 115]⟩
def w_opt : ByteArray := ⟨#[111, 112, 116, 105, 111, 110, 97, 108]⟩
def w_rep : ByteArray := ⟨#[114, 101, 112, 101, 97, 116, 101, 100]⟩
def w_res : ByteArray := ⟨#[114, 101, 115, 101, 114, 118, 101, 100]⟩
def w_eq : ByteArray := ⟨#[61]⟩
def w_semi : ByteArray := ⟨#[59]⟩
def w_comma : ByteArray := ⟨#[44]⟩
def w_lbrace : ByteArray := ⟨#[123]⟩
def w_rbrace : ByteArray := ⟨#[125]⟩
def w_lpar : ByteArray := ⟨#[40]⟩
def w_rpar : ByteArray := ⟨#[41]⟩
def w_returns : ByteArray := ⟨#[114, 101, 116, 117, 114, 110, 115]⟩
def w_schema : ByteArray := ⟨#[115, 99, 104, 101, 109, 97]⟩
def w_message : ByteArray := ⟨#[109, 101, 115, 115, 97, 103, 101]⟩
def w_enum : ByteArray := ⟨#[101, 110, 117, 109]⟩
def w_call : ByteArray := ⟨#[99, 97, 108, 108]⟩

def kindWords : List ByteArray := [w_int32, w_int64, w_bool, w_text, w_bytes]
/-- kind: the words from the i-th on. -/
def kindFrom : List ByteArray → Int → St → Int × ByteArray × St
  | [], _, s => (7, nameV s, nameS s)
  | t :: r, i, s => if looksB t s then (i, noText, takesS t s) else kindFrom r (i + 1) s
def kindQ (s : St) : Int × ByteArray × St := kindFrom kindWords 1 s
theorem kindFrom_lt : ∀ (ts : List ByteArray) (i : Int) (s : St), s.bad = false → (kindFrom ts i s).2.2.m < s.m
  | [], _, s, h => nameS_lt s h
  | t :: r, i, s, h => by
    simp only [kindFrom]
    split
    · rename_i h1; exact takesS_lt t s h1
    · exact kindFrom_lt r _ s h
theorem kindFrom_m : ∀ (ts : List ByteArray) (i : Int) (s : St), (kindFrom ts i s).2.2.m ≤ s.m
  | [], _, s => nameS_m s
  | t :: r, i, s => by
    simp only [kindFrom]
    split
    · exact takesS_m t s
    · exact kindFrom_m r _ s

/-- The label of a field, and behind it. -/
def labelV (s : St) : Int := if looksB w_opt s then 2 else if looksB w_rep s then 3 else 1
def labelS (s : St) : St := if looksB w_opt s then takesS w_opt s else takesS w_rep s
theorem labelS_m (s : St) : (labelS s).m ≤ s.m := by
  unfold labelS; split
  · exact takesS_m _ s
  · exact takesS_m _ s

def fieldV (s : St) : FieldD :=
  { label := labelV s, kind := (kindQ (labelS s)).1, tname := (kindQ (labelS s)).2.1, name := nameV (kindQ (labelS s)).2.2,
    tag := numberV (needsS [w_eq] (nameS (kindQ (labelS s)).2.2)) }
def fieldS (s : St) : St := needsS [w_semi] (numberS (needsS [w_eq] (nameS (kindQ (labelS s)).2.2)))
theorem labelS_bad (s : St) : (labelS s).bad = s.bad := by
  unfold labelS takesS
  repeat' split
  all_goals rfl
theorem fieldS_lt (s : St) (h : s.bad = false) : (fieldS s).m < s.m := by
  unfold fieldS
  have h1 := needsS_m [w_semi] (numberS (needsS [w_eq] (nameS (kindQ (labelS s)).2.2)))
  have h2 := numberS_m (needsS [w_eq] (nameS (kindQ (labelS s)).2.2))
  have h3 := needsS_m [w_eq] (nameS (kindQ (labelS s)).2.2)
  have h4 := nameS_m (kindQ (labelS s)).2.2
  have h5 := kindFrom_lt kindWords 1 (labelS s) (by rw [labelS_bad, h])
  have h6 := labelS_m s
  unfold kindQ at *
  omega
theorem fieldS_m (s : St) : (fieldS s).m ≤ s.m := by
  unfold fieldS
  have h1 := needsS_m [w_semi] (numberS (needsS [w_eq] (nameS (kindQ (labelS s)).2.2)))
  have h2 := numberS_m (needsS [w_eq] (nameS (kindQ (labelS s)).2.2))
  have h3 := needsS_m [w_eq] (nameS (kindQ (labelS s)).2.2)
  have h4 := nameS_m (kindQ (labelS s)).2.2
  have h5 := kindFrom_m kindWords 1 (labelS s)
  have h6 := labelS_m s
  unfold kindQ at *
  omega

/-- The numbers behind commas. -/
def commaFrom : Nat → St → List Int → St × List Int
  | 0, s, rs => (s, rs)
  | k + 1, s, rs => if looksB w_comma s then commaFrom k (numberS (takesS w_comma s)) (rs ++ [numberV (takesS w_comma s)]) else (s, rs)
theorem commaFrom_m : ∀ k s rs, (commaFrom k s rs).1.m ≤ s.m
  | 0, s, _ => Nat.le_refl _
  | k + 1, s, rs => by
    simp only [commaFrom]
    split
    · exact Nat.le_trans (commaFrom_m k _ _) (Nat.le_trans (numberS_m _) (takesS_m _ s))
    · exact Nat.le_refl _

def messageFrom : Nat → St → List FieldD → List Int → St × List FieldD × List Int
  | 0, s, fs, rs => (s, fs, rs)
  | k + 1, s, fs, rs =>
    if s.bad then (s, fs, rs)
    else if looksB w_rbrace s then (takesS w_rbrace s, fs, rs)
    else if looksB w_res s then
      messageFrom k (needsS [w_semi] (commaFrom k (numberS (takesS w_res s)) (rs ++ [numberV (takesS w_res s)])).1) fs (commaFrom k (numberS (takesS w_res s)) (rs ++ [numberV (takesS w_res s)])).2
    else messageFrom k (fieldS s) (fs ++ [fieldV s]) rs
def messageR (s : St) : St × List FieldD × List Int := messageFrom (s.m + 1) (needsS [w_lbrace] (nameS s)) [] []
def messageV (s : St) : MessageD := { name := nameV s, fields := (messageR s).2.1, reserved := (messageR s).2.2 }
def messageS (s : St) : St := (messageR s).1

def namedV (s : St) : NamedD := { name := nameV s, n := numberV (needsS [w_eq] (nameS s)) }
def namedS (s : St) : St := needsS [w_semi] (numberS (needsS [w_eq] (nameS s)))
theorem namedS_lt (s : St) (h : s.bad = false) : (namedS s).m < s.m := by
  unfold namedS
  have h1 := needsS_m [w_semi] (numberS (needsS [w_eq] (nameS s)))
  have h2 := numberS_m (needsS [w_eq] (nameS s))
  have h3 := needsS_m [w_eq] (nameS s)
  have h4 := nameS_lt s h
  omega
def enumFrom : Nat → St → List NamedD → St × List NamedD
  | 0, s, vs => (s, vs)
  | k + 1, s, vs =>
    if s.bad then (s, vs)
    else if looksB w_rbrace s then (takesS w_rbrace s, vs)
    else enumFrom k (namedS s) (vs ++ [namedV s])
def enumR (s : St) : St × List NamedD := enumFrom (s.m + 1) (needsS [w_lbrace] (nameS s)) []
def enumV (s : St) : EnumD := { name := nameV s, values := (enumR s).2 }
def enumS (s : St) : St := (enumR s).1

def callV (s : St) : MethodD :=
  { name := nameV s, inp := nameV (needsS [w_lpar] (nameS s)),
    outp := nameV (needsS [w_rpar, w_returns, w_lpar] (nameS (needsS [w_lpar] (nameS s)))) }
def callS (s : St) : St := needsS [w_rpar, w_semi] (nameS (needsS [w_rpar, w_returns, w_lpar] (nameS (needsS [w_lpar] (nameS s)))))

theorem messageFrom_m : ∀ k s fs rs, (messageFrom k s fs rs).1.m ≤ s.m
  | 0, s, _, _ => Nat.le_refl _
  | k + 1, s, fs, rs => by
    simp only [messageFrom]
    split
    · exact Nat.le_refl _
    · split
      · exact takesS_m _ s
      · split
        · exact Nat.le_trans (messageFrom_m k _ _ _) (Nat.le_trans (needsS_m _ _) (Nat.le_trans (commaFrom_m k _ _) (Nat.le_trans (numberS_m _) (takesS_m _ s))))
        · exact Nat.le_trans (messageFrom_m k _ _ _) (fieldS_m s)
theorem messageS_m (s : St) : (messageS s).m ≤ s.m :=
  Nat.le_trans (messageFrom_m _ _ _ _) (Nat.le_trans (needsS_m _ _) (nameS_m s))
theorem namedS_m (s : St) : (namedS s).m ≤ s.m := by
  unfold namedS
  have h1 := needsS_m [w_semi] (numberS (needsS [w_eq] (nameS s)))
  have h2 := numberS_m (needsS [w_eq] (nameS s))
  have h3 := needsS_m [w_eq] (nameS s)
  have h4 := nameS_m s
  omega
theorem enumFrom_m : ∀ k s vs, (enumFrom k s vs).1.m ≤ s.m
  | 0, s, _ => Nat.le_refl _
  | k + 1, s, vs => by
    simp only [enumFrom]
    split
    · exact Nat.le_refl _
    · split
      · exact takesS_m _ s
      · exact Nat.le_trans (enumFrom_m k _ _) (namedS_m s)
theorem enumS_m (s : St) : (enumS s).m ≤ s.m :=
  Nat.le_trans (enumFrom_m _ _ _) (Nat.le_trans (needsS_m _ _) (nameS_m s))
theorem callS_m (s : St) : (callS s).m ≤ s.m := by
  unfold callS
  exact Nat.le_trans (needsS_m _ _) (Nat.le_trans (nameS_m _) (Nat.le_trans (needsS_m _ _) (Nat.le_trans (nameS_m _) (Nat.le_trans (needsS_m _ _) (nameS_m s)))))

def schemaFrom : Nat → St → List MessageD → List EnumD → List MethodD → St × List MessageD × List EnumD × List MethodD
  | 0, s, ms, es, cs => (s, ms, es, cs)
  | k + 1, s, ms, es, cs =>
    if s.bad || s.l.isEmpty then (s, ms, es, cs)
    else if looksB w_message s then schemaFrom k (messageS (takesS w_message s)) (ms ++ [messageV (takesS w_message s)]) es cs
    else if looksB w_enum s then schemaFrom k (enumS (takesS w_enum s)) ms (es ++ [enumV (takesS w_enum s)]) cs
    else if looksB w_call s then schemaFrom k (callS (takesS w_call s)) ms es (cs ++ [callV (takesS w_call s)])
    else schemaFrom k ⟨s.l, true⟩ ms es cs
def schemaStart (s : St) : St := needsS [w_semi] (nameS (needsS [w_schema] s))
def schemaR (s : St) : St × List MessageD × List EnumD × List MethodD := schemaFrom (s.m + 1) (schemaStart s) [] [] []
def schemaV (s : St) : SchemaD := { name := nameV (needsS [w_schema] s), messages := (schemaR s).2.1, enums := (schemaR s).2.2.1, methods := (schemaR s).2.2.2 }
def schemaS (s : St) : St := (schemaR s).1

/-! ### types that are enumerations' -/
def resolveF (es : List EnumD) (f : FieldD) : FieldD := if f.kind = 7 ∧ es.any (fun e => e.name.toList == f.tname.toList) then { f with kind := 6 } else f
def resolveM (es : List EnumD) (m : MessageD) : MessageD := { m with fields := m.fields.map (resolveF es) }
def resolveQ (x : SchemaD) : SchemaD := { x with messages := x.messages.map (resolveM x.enums) }

def noSchema : SchemaD := { name := noText, messages := [], enums := [], methods := [] }
def parseQ (s : ByteArray) : SchemaD × Int × Int :=
  if (tokensP s).2.2 ≠ 0 then (noSchema, (tokensP s).2.1, (tokensP s).2.2)
  else if (schemaS ⟨(tokensP s).1, false⟩).bad = false then (resolveQ (schemaV ⟨(tokensP s).1, false⟩), 0, 0)
  else match (schemaS ⟨(tokensP s).1, false⟩).l with
    | k :: _ => (noSchema, k.pos, 5)
    | [] => (noSchema, s.size, 5)

end Go.Proofs.YtkpgaccgcdoijaaGreatDoor

import Derived.Test.YtkpgaccgcdoijaaGreatDoorZAwk
import Derived.Deep.RegionHeldLaw
namespace Go.Proofs.YtkpgaccgcdoijaaGreatDoor
open Go.RowKit

/-! ### append(nil, x...): a copy -/
section
variable {P : Program}
theorem wp_clone {w : World} {o : Oper} {a : Act} {K : Act → World → Prop} {Q : Exit → Act → World → Prop} (s x : Operand) (t : TypeId)
    (ho : o.op = .call { callee := .builtin .append, args := #[s, x], argTypes := #[t, t] })
    (e : TypeId) (z : Value) (size bytes : Nat) (ht : P.underlying t = some (.slice e))
    (hinfo : (P.info? e).map (fun i => (i.zero, i.size, i.bytes)) = some (some z, size, bytes)) (hzs : z.cells.size = size) (hsz : 0 < size)
    (hs : a.eval s = .slice none 0 0) (A : Option Addr) (n c : Nat) (xs : List Value) (hx : a.eval x = .slice A n c) (hrd : Rd w (fun k => k < w.heap.size) size (.slice A n c) n xs) (h1 : ∀ u ∈ xs, u.oneCell' = true)
    (hn : n ≤ 1000) (hbytes : n * bytes ≤ 140737488355328)
    (h : ∀ A' c' w', w'.ownsRow w.heap.size e size (.slice A' n c') n xs → Below w.heap.size w w' → K (a.put o.dst (.slice A' n c')) w') : o.wp P a w K Q := by
  obtain ⟨i0, hi, hzz⟩ := Option.map_eq_some_iff.1 hinfo
  simp only [Prod.mk.injEq] at hzz
  obtain ⟨hz0, hz1, hz2⟩ := hzz
  cases A with
  | none =>
    have hn0 : n = 0 := by
      rcases Nat.eq_zero_or_pos n with h0 | h0
      · exact h0
      · obtain ⟨b, o, c, hv, _⟩ := hrd.form h0
        cases hv
    subst hn0
    have hxs : xs = [] := List.eq_nil_of_length_eq_zero (by rw [hrd.1, Nat.zero_mul])
    subst hxs
    have hr : (Builtin.append_ #[t, t] o.type #[.slice none 0 0, .slice none 0 c]).run P w = .ok (.slice none 0 0) w := by
      simp [Builtin.append_, run_underlying ht, sizeOf, typeInfo, hi, Builtin.lenOf, Builtin.firstCells, loadCells, loadCellsFrom]
    unfold Oper.wp execOp
    simp only [ho, resolve, invoke, builtin, Sem.run_bind, Sem.run_pure, Result.andThen_ok, List.map_toArray, List.map_cons, List.map_nil, hs, hx, hr]
    exact h none 0 w ⟨by simp, .inl ⟨rfl, rfl⟩⟩ (Below.refl _ _)
  | some ad =>
    have hnews : ∀ (j : Nat) (u : Value), xs[j]? = some u → w.cell? (ad.add j) = some u := by
      intro j u hj
      obtain ⟨hj1, _⟩ := List.getElem?_eq_some_iff.1 hj
      rw [hrd.1] at hj1
      obtain ⟨b, o, c', hv, hb, hc⟩ := hrd.form (Nat.pos_of_ne_zero (fun h0 => by subst h0; simp at hj1))
      injection hv with hv1 _ _
      injection hv1 with hv1
      subst hv1
      rw [Addr.add_mid]
      exact (hc j hj1).trans hj
    obtain ⟨v', w', hr, h2, h3, _, _⟩ := run_append_own_at (P := P) w w.heap.size t o.type e i0 z size bytes ht hi hz0 hz1 hz2 hzs hsz (.slice none 0 0) 0 [] ⟨by simp, .inl ⟨rfl, rfl⟩⟩ ad n c xs hrd.1 hnews h1 (by unfold maxLen; omega) (by rw [Nat.zero_add]; exact hbytes) (Nat.le_refl _)
    obtain ⟨A2, c2, rfl⟩ := own_slice (n := n) (by simpa using h2)
    unfold Oper.wp execOp
    simp only [ho, resolve, invoke, builtin, Sem.run_bind, Sem.run_pure, Result.andThen_ok, List.map_toArray, List.map_cons, List.map_nil, hs, hx, hr]
    have h2' : w'.ownsRow w.heap.size e size (.slice A2 n c2) n xs := by simpa using h2
    exact h _ _ _ h2' ((Below.refl _ w).grown h3 (Nat.le_refl _) (fun k hk => by cases hk))
theorem wpList_clone {w : World} {ops : Array Oper} {rest : List Oper} {o : Oper} {a : Act} {Q : Exit → Act → World → Prop} (hgd : o.guard = none) (s x : Operand) (t : TypeId)
    (ho : o.op = .call { callee := .builtin .append, args := #[s, x], argTypes := #[t, t] })
    (e : TypeId) (z : Value) (size bytes : Nat) (ht : P.underlying t = some (.slice e))
    (hinfo : (P.info? e).map (fun i => (i.zero, i.size, i.bytes)) = some (some z, size, bytes)) (hzs : z.cells.size = size) (hsz : 0 < size)
    (hs : a.eval s = .slice none 0 0) (A : Option Addr) (n c : Nat) (xs : List Value) (hx : a.eval x = .slice A n c) (hrd : Rd w (fun k => k < w.heap.size) size (.slice A n c) n xs) (h1 : ∀ u ∈ xs, u.oneCell' = true)
    (hn : n ≤ 1000) (hbytes : n * bytes ≤ 140737488355328)
    (h : ∀ A' c' w', w'.ownsRow w.heap.size e size (.slice A' n c') n xs → Below w.heap.size w w' → wpList P ops Q rest (a.put o.dst (.slice A' n c')) w') : wpList P ops Q (o :: rest) a w :=
  wpList_plain hgd fun _ hK => wp_clone s x t ho e z size bytes ht hinfo hzs hsz hs A n c xs hx hrd h1 hn hbytes fun A' c' w' h2 h3 => hK _ _ (h A' c' w' h2 h3)
theorem step_clone {w : World} {ops : Array Oper} {o : Oper} {a : Act} {K : Act → World → Prop} {Q : Exit → Act → World → Prop} {E : Prop} (hgd : o.guard = none) (s x : Operand) (t : TypeId)
    (ho : o.op = .call { callee := .builtin .append, args := #[s, x], argTypes := #[t, t] })
    (e : TypeId) (z : Value) (size bytes : Nat) (ht : P.underlying t = some (.slice e))
    (hinfo : (P.info? e).map (fun i => (i.zero, i.size, i.bytes)) = some (some z, size, bytes)) (hzs : z.cells.size = size) (hsz : 0 < size)
    (hs : a.eval s = .slice none 0 0) (A : Option Addr) (n c : Nat) (xs : List Value) (hx : a.eval x = .slice A n c) (hrd : Rd w (fun k => k < w.heap.size) size (.slice A n c) n xs) (h1 : ∀ u ∈ xs, u.oneCell' = true)
    (hn : n ≤ 1000) (hbytes : n * bytes ≤ 140737488355328)
    (h : ∀ A' c' w', w'.ownsRow w.heap.size e size (.slice A' n c') n xs → Below w.heap.size w w' → K (a.put o.dst (.slice A' n c')) w') :
    if Region.wanted o (yielded ops a.tmps) = true then Oper.wp P o a w K Q else E := by
  have hw : Region.wanted o (yielded ops a.tmps) = true := by simp [Region.wanted, hgd]
  rw [if_pos hw]
  exact wp_clone s x t ho e z size bytes ht hinfo hzs hsz hs A n c xs hx hrd h1 hn hbytes h
end

end Go.Proofs.YtkpgaccgcdoijaaGreatDoor

import Derived.Test.YtkpgaccgcdoijaaGreatDoorZIdl8
import Derived.Maps.OwnOps
import Derived.Maps.OwnSet
namespace Go.Proofs.YtkpgaccgcdoijaaGreatDoor
open Go.RowKit Go.Maps

/-! ### a map to truths that the call has made: block b, at most n entries; the keys of S alone are true -/
def KSet (w : World) (k e : TypeId) (b n : Nat) (S : List Lit) : Prop :=
  ∃ D : DataW Unit, w.ownsMap Tryz.prog k (plainElem Tryz.prog e) b n D ∧ IsMap D ∧ ∀ l, ∃ q : Bool, D.atKey l (.lit (.bool false)) = .lit (.bool q) ∧ (q = true ↔ l ∈ S)
theorem KSet.made (w : World) (k e : TypeId) : KSet (w.alloc (.map #[] 0)) k e w.heap.size 0 [] :=
  ⟨_, World.ownsMap_made _ _ _ _, isMap_empty, fun l => ⟨false, by simp [DataW.atKey], by simp⟩⟩
theorem KSet.kept {w w' : World} {k e : TypeId} {b n : Nat} {S : List Lit} (h : KSet w k e b n S) (hb : w'.heap[b]? = w.heap[b]?) : KSet w' k e b n S := by
  obtain ⟨D, h1, h2, h3⟩ := h
  obtain ⟨es, clock, q1, q2, q3, q4⟩ := h1
  exact ⟨D, ⟨es, clock, hb.trans q1, q2, q3, q4⟩, h2, h3⟩
theorem KSet.lt {w : World} {k e : TypeId} {b n : Nat} {S : List Lit} (h : KSet w k e b n S) : b < w.heap.size := by
  obtain ⟨D, h1, _⟩ := h
  exact h1.lt

theorem plainElem_bool_inv {P : Program} {e : TypeId} (he : P.underlying e = some .bool) {v : Value} {z : DataW Unit × List MemPlace} (h : plainElem P e v = some z) : ∃ x : Bool, v = .bool x ∧ z = (.lit (.bool x), []) := by
  unfold plainElem at h
  rw [he] at h
  cases v <;> simp at h
  exact ⟨_, rfl, h.symm⟩

theorem KSet.look {w : World} {k e t : TypeId} {b n : Nat} {S : List Lit} (h : KSet w k e b n S) (K : Keyed Tryz.prog k) (ht : Tryz.prog.underlying t = some (.map k e)) (he : Tryz.prog.underlying e = some .bool) (hz : (zeroValue e).run Tryz.prog w = .ok (.bool false) w)
    {key : Value} {kl : Lit} (hkey : keyOf Tryz.prog k key = some kl) : ∃ q : Bool, (Instr.lookup t (.map (some b)) key false).run Tryz.prog w = .ok (.bool q) w ∧ (q = true ↔ kl ∈ S) := by
  obtain ⟨D, h1, h2, h3⟩ := h
  obtain ⟨v, ps, hrun, hv⟩ := h1.lookup K ht hz (plainElem_bool he false) hkey
  obtain ⟨x, rfl, hx⟩ := plainElem_bool_inv he hv
  obtain ⟨q, hq, hqS⟩ := h3 kl
  rw [hq] at hx
  simp only [Prod.mk.injEq, DataW.lit.injEq, Lit.bool.injEq] at hx
  obtain ⟨rfl, _⟩ := hx
  exact ⟨q, hrun, hqS⟩

theorem KSet.put {w w' : World} {k e t : TypeId} {b n : Nat} {S : List Lit} (K : Keyed Tryz.prog k) {key : Value} {kl : Lit} (hkey : keyOf Tryz.prog k key = some kl) {D : DataW Unit} (h2 : IsMap D)
    (h3 : ∀ l, ∃ q : Bool, D.atKey l (.lit (.bool false)) = .lit (.bool q) ∧ (q = true ↔ l ∈ S)) (hw : w'.ownsMap Tryz.prog k (plainElem Tryz.prog e) b (n + 1) (D.put kl (.lit (.bool true)))) : KSet w' k e b (n + 1) (kl :: S) := by
  refine ⟨_, hw, h2.put _ _, fun l => ?_⟩
  by_cases hl : l = kl
  · subst hl
    exact ⟨true, atKey_put_same h2 (K.key hkey) _ _, by simp⟩
  · obtain ⟨q, hq, hqS⟩ := h3 l
    exact ⟨q, by rw [atKey_put_other hl]; exact hq, by simp [hl, hqS]⟩

theorem wpList_put_true {w : World} {ops : Array Oper} {rest : List Oper} {o : Oper} {a : Act} {Q : Exit → Act → World → Prop}
    (hg : o.guard = none) (m x v : Operand) (t : TypeId) (hop : o.op = Op.mapUpdate t m x v)
    (k e : TypeId) (K : Keyed Tryz.prog k) (ht : Tryz.prog.underlying t = some (.map k e)) (he : Tryz.prog.underlying e = some .bool) (b n : Nat) (S : List Lit)
    (hm : a.eval m = .map (some b)) (h : KSet w k e b n S) (hn : n < maxLen) (key : Value) (kl : Lit) (hx : a.eval x = key) (hv : a.eval v = .bool true) (hkey : keyOf Tryz.prog k key = some kl)
    (hK : ∀ w', KSet w' k e b (n + 1) (kl :: S) → w.grownBy w' (some b) → wpList Tryz.prog ops Q rest (a.put o.dst undef) w') :
    wpList Tryz.prog ops Q (o :: rest) a w := by
  obtain ⟨D, h1, h2, h3⟩ := h
  exact wpList_mapUpdate_own w hg m x v t hop k e K ht _ b n D hm h1 hn key (.bool true) kl hx hv hkey _ [] (plainElem_bool he true) (fun w' ho hgr => hK w' (KSet.put (w := w) (t := t) K hkey h2 h3 ho) hgr)

def sLit (s : ByteArray) : Lit := .string s.data.toList
theorem keyOf_str {s : ByteArray} (h : s.size ≤ maxLen) : keyOf Tryz.prog 9 (.string s) = some (sLit s) := by
  simp [keyOf, Tryz.underlying9, mapKey, sLit, h]
theorem sLit_inj {s t : ByteArray} : sLit s = sLit t ↔ s.toList = t.toList := by
  simp [sLit, Lib.toList_data]
def iLit (n : Int) : Lit := .int .i64 n
theorem keyOf_i64 {n : Int} (h0 : -9223372036854775808 ≤ n) (h1 : n ≤ 9223372036854775807) : keyOf Tryz.prog 3 (.int .i64 n) = some (iLit n) :=
  keyOf_int_mk Tryz.underlying3 (by
    have e1 : IntKind.i64.min = -9223372036854775808 := by decide
    have e2 : IntKind.i64.max = 9223372036854775807 := by decide
    simp only [Lit.wf, Bool.and_eq_true, decide_eq_true_eq]; omega)

end Go.Proofs.YtkpgaccgcdoijaaGreatDoor

namespace Go.Proofs.YtkpgaccgcdoijaaGreatDoor
open Go.RowKit

/-! ### an owned schema, read and turned -/
theorem EnumRow.get {w : World} {E : Nat} : ∀ {B : Nat} {l : List EnumD} {cs : List Value} (k : Nat) (h : k < l.length), EnumRow w E B l cs → ∃ A c, cs[2 * k]? = some (.string l[k].name) ∧ cs[2 * k + 1]? = some (.slice A l[k].values.length c)
  | _, m :: r, _, 0, _, ⟨vf, rest, B', e1, e2, _, _, _⟩ => by
    obtain ⟨A, c, rfl⟩ := own_slice e2
    exact ⟨A, c, by rw [e1]; rfl, by rw [e1]; rfl⟩
  | _, m :: r, _, k + 1, h, ⟨vf, rest, B', e1, _, _, _, e7⟩ => by
    obtain ⟨A, c, h1, h2⟩ := EnumRow.get k (by simpa using h) e7
    exact ⟨A, c, by rw [e1, show 2 * (k + 1) = 2 * k + 1 + 1 by omega]; simpa using h1, by rw [e1, show 2 * (k + 1) + 1 = (2 * k + 1) + 1 + 1 by omega]; simpa using h2⟩
theorem MsgRow.get {w : World} {E : Nat} : ∀ {B : Nat} {l : List MessageD} {cs : List Value} (k : Nat) (h : k < l.length), MsgRow w E B l cs → ∃ A c A2 c2, cs[3 * k]? = some (.string l[k].name) ∧ cs[3 * k + 1]? = some (.slice A l[k].fields.length c) ∧ cs[3 * k + 2]? = some (.slice A2 l[k].reserved.length c2) ∧
      w.ownsRow B 44 5 (.slice A l[k].fields.length c) l[k].fields.length (fieldsCells l[k].fields)
  | _, m :: r, _, 0, _, ⟨vf, vr, rest, B', e1, e2, e3, _, _, _, _⟩ => by
    obtain ⟨A, c, rfl⟩ := own_slice e2
    obtain ⟨A2, c2, rfl⟩ := own_slice e3
    exact ⟨A, c, A2, c2, by rw [e1]; rfl, by rw [e1]; rfl, by rw [e1]; rfl, e2⟩
  | _, m :: r, _, k + 1, h, ⟨vf, vr, rest, B', e1, _, _, _, _, e6, e7⟩ => by
    obtain ⟨A, c, A2, c2, h1, h2, h3, h4⟩ := MsgRow.get k (by simpa using h) e7
    refine ⟨A, c, A2, c2, ?_, ?_, ?_, own_mono h4 e6⟩
    · rw [e1, show 3 * (k + 1) = 3 * k + 1 + 1 + 1 by omega]; simpa using h1
    · rw [e1, show 3 * (k + 1) + 1 = (3 * k + 1) + 1 + 1 + 1 by omega]; simpa using h2
    · rw [e1, show 3 * (k + 1) + 2 = (3 * k + 2) + 1 + 1 + 1 by omega]; simpa using h3

/-- The i-th field's kind set to 6. -/
def setKind (fs : List FieldD) (i : Nat) : List FieldD := match fs[i]? with | some f => fs.set i { f with kind := 6 } | none => fs
def setMsg (l : List MessageD) (k i : Nat) : List MessageD := match l[k]? with | some m => l.set k { m with fields := setKind m.fields i } | none => l

theorem fieldsCells_setKind : ∀ (fs : List FieldD) (i : Nat), i < fs.length → fieldsCells (setKind fs i) = (fieldsCells fs).set (5 * i + 3) (.int .i64 6)
  | f :: r, 0, _ => by simp [setKind, fieldsCells, fieldCells]
  | f :: r, i + 1, h => by
    have ih := fieldsCells_setKind r i (by simpa using h)
    have h1 : setKind (f :: r) (i + 1) = f :: setKind r i := by
      unfold setKind
      simp only [List.getElem?_cons_succ]
      split <;> simp
    rw [h1]
    show fieldCells f ++ fieldsCells (setKind r i) = (fieldCells f ++ fieldsCells r).set (5 * (i + 1) + 3) (.int .i64 6)
    rw [ih, List.set_append_right _ _ (by simp [fieldCells]; omega)]
    simp [fieldCells, show 5 * (i + 1) + 3 - 5 = 5 * i + 3 by omega]
theorem setKind_length (fs : List FieldD) (i : Nat) : (setKind fs i).length = fs.length := by unfold setKind; split <;> simp

theorem MsgRow.apart {w : World} {E : Nat} : ∀ {B : Nat} {l : List MessageD} {cs : List Value} {b : Nat}, b < B → ∀ {a : Addr}, a.block = b → ∀ (u : Value), MsgRow w E B l cs → MsgRow (w.setCell a u) E B l cs :=
  fun hb _ ha u h => h.same (fun k hk => Below.heap_setCell _ _ _ _ (by omega))

theorem MsgRow.setKind {w : World} {E : Nat} (i : Nat) : ∀ {B : Nat} {l : List MessageD} {cs : List Value} (k : Nat) (h : k < l.length) (b c : Nat), i < l[k].fields.length → cs[3 * k + 1]? = some (.slice (some ⟨b, 0, none⟩) l[k].fields.length c) → MsgRow w E B l cs →
      MsgRow (w.setCell ⟨b, 5 * i + 3, none⟩ (.int .i64 6)) E B (setMsg l k i) cs
  | B, m :: r, _, 0, _, b, c, hi, hc, ⟨vf, vr, rest, B', e1, e2, e3, e4, e5, e6, e7⟩ => by
    have hv : vf = .slice (some ⟨b, 0, none⟩) m.fields.length c := by rw [e1] at hc; simpa using hc
    subst hv
    have hb : b < B' := e4 b rfl
    refine ⟨_, vr, rest, B', e1, ?_, ?_, e4, e5, e6, MsgRow.apart hb rfl _ e7⟩
    · have hi' : i < m.fields.length := by simpa using hi
      simp only [setKind_length, fieldsCells_setKind _ _ hi']
      exact (e2.stored _ _).1
    · exact own_other_set e3 rfl (by
        rcases own_type_ne e3 e2 (by decide) with h1 | h1
        · rw [h1]; simp
        · simpa [Value.ownBlock] using h1) _
  | B, m :: r, _, k + 1, h, b, c, hi, hc, ⟨vf, vr, rest, B', e1, e2, e3, e4, e5, e6, e7⟩ => by
    have hk : k < r.length := by simpa using h
    have hc' : rest[3 * k + 1]? = some (.slice (some ⟨b, 0, none⟩) r[k].fields.length c) := by
      rw [e1, show 3 * (k + 1) + 1 = (3 * k + 1) + 1 + 1 + 1 by omega] at hc; simpa using hc
    have hi' : i < r[k].fields.length := by simpa using hi
    have hs : setMsg (m :: r) (k + 1) i = m :: setMsg r k i := by
      unfold setMsg
      simp only [List.getElem?_cons_succ]
      split <;> simp
    rw [hs]
    obtain ⟨A, c1, A2, c2, _, g2, _, g4⟩ := MsgRow.get k hk e7
    have hbB : B' ≤ b := by
      rw [hc'] at g2
      have := Option.some.inj g2
      injection this with q1 q2 q3
      subst q1
      exact (g4.lt b rfl).1
    refine ⟨vf, vr, rest, B', e1, ?_, ?_, e4, e5, e6, MsgRow.setKind i k hk b c hi' hc' e7⟩
    · exact own_other_set e2 rfl (fun hh => by have := e4 _ hh; simp only at this; omega) _
    · exact own_other_set e3 rfl (fun hh => by have := e5 _ hh; simp only at this; omega) _

end Go.Proofs.YtkpgaccgcdoijaaGreatDoor

namespace Go.Proofs.YtkpgaccgcdoijaaGreatDoor
open Go.RowKit

/-! ### resolve: the plain law of its loops -/
def enumKeys (es : List EnumD) : List Lit := (es.map (fun e => sLit e.name)).reverse
theorem mem_enumKeys {es : List EnumD} {s : ByteArray} : sLit s ∈ enumKeys es ↔ es.any (fun e => e.name.toList == s.toList) = true := by
  simp only [enumKeys, List.mem_reverse, List.mem_map, List.any_eq_true, beq_iff_eq]
  constructor
  · rintro ⟨e, he, h⟩
    exact ⟨e, he, sLit_inj.1 h⟩
  · rintro ⟨e, he, h⟩
    exact ⟨e, he, sLit_inj.2 h⟩

/-- What resolve leaves, message k's fields done up to i. -/
def resAt (es : List EnumD) (ms : List MessageD) (k i : Nat) : List MessageD :=
  (ms.take k).map (resolveM es) ++ (match ms[k]? with | some m => [{ m with fields := (m.fields.take i).map (resolveF es) ++ m.fields.drop i }] | none => []) ++ ms.drop (k + 1)
theorem resAt_zero (es : List EnumD) (ms : List MessageD) (k : Nat) : resAt es ms k 0 = (ms.take k).map (resolveM es) ++ ms.drop k := by
  unfold resAt
  cases h : ms[k]? with
  | none =>
    have := List.getElem?_eq_none_iff.1 h
    rw [List.drop_eq_nil_of_le this, List.drop_eq_nil_of_le (by omega)]; simp
  | some m =>
    obtain ⟨hk, hm⟩ := List.getElem?_eq_some_iff.1 h
    rw [List.drop_eq_getElem_cons hk, hm]; simp
theorem resAt_end (es : List EnumD) (ms : List MessageD) (k : Nat) (hk : k < ms.length) : resAt es ms k ms[k].fields.length = resAt es ms (k + 1) 0 := by
  rw [resAt_zero]
  unfold resAt
  rw [List.getElem?_eq_getElem hk, List.take_succ_eq_append_getElem hk, List.map_append]
  simp only [List.take_length, List.drop_length, List.append_nil, List.map_cons, List.map_nil]
  rfl
theorem resAt_length (es : List EnumD) (ms : List MessageD) (k i : Nat) : (resAt es ms k i).length = ms.length := by
  unfold resAt
  cases h : ms[k]? with
  | none => have := List.getElem?_eq_none_iff.1 h; simp; omega
  | some m => obtain ⟨hk, hm⟩ := List.getElem?_eq_some_iff.1 h; simp; omega
theorem resAt_get (es : List EnumD) (ms : List MessageD) (k i : Nat) (hk : k < ms.length) : (resAt es ms k i)[k]? = some { ms[k] with fields := (ms[k].fields.take i).map (resolveF es) ++ ms[k].fields.drop i } := by
  unfold resAt
  rw [List.getElem?_eq_getElem hk, List.append_assoc, List.getElem?_append_right (by simp; omega)]
  simp [Nat.min_eq_left (Nat.le_of_lt hk)]
theorem resF_split (es : List EnumD) (fs : List FieldD) (i : Nat) (hi : i < fs.length) : (fs.take i).map (resolveF es) ++ fs.drop i = (fs.take i).map (resolveF es) ++ fs[i] :: fs.drop (i + 1) ∧
    (fs.take (i + 1)).map (resolveF es) ++ fs.drop (i + 1) = (fs.take i).map (resolveF es) ++ resolveF es fs[i] :: fs.drop (i + 1) := by
  refine ⟨by rw [List.drop_eq_getElem_cons hi], ?_⟩
  rw [List.take_succ_eq_append_getElem hi, List.map_append]
  simp
theorem resAt_same (es : List EnumD) (ms : List MessageD) (k i : Nat) (hk : k < ms.length) (hi : i < ms[k].fields.length) (h : resolveF es ms[k].fields[i] = ms[k].fields[i]) :
    resAt es ms k (i + 1) = resAt es ms k i := by
  unfold resAt
  rw [List.getElem?_eq_getElem hk]
  simp only
  rw [(resF_split es _ i hi).2, h, ← (resF_split es _ i hi).1]
theorem resAt_turn (es : List EnumD) (ms : List MessageD) (k i : Nat) (hk : k < ms.length) (hi : i < ms[k].fields.length) (h : resolveF es ms[k].fields[i] = { ms[k].fields[i] with kind := 6 }) :
    resAt es ms k (i + 1) = setMsg (resAt es ms k i) k i := by
  have hg := resAt_get es ms k i hk
  unfold setMsg
  rw [hg]
  simp only
  have hl : ((ms[k].fields.take i).map (resolveF es)).length = i := by simp; omega
  have hs : setKind ((ms[k].fields.take i).map (resolveF es) ++ ms[k].fields.drop i) i = (ms[k].fields.take (i + 1)).map (resolveF es) ++ ms[k].fields.drop (i + 1) := by
    rw [(resF_split es _ i hi).1, (resF_split es _ i hi).2, h]
    unfold setKind
    rw [List.getElem?_append_right (by omega), hl, Nat.sub_self]
    simp only [List.getElem?_cons_zero]
    rw [List.set_append_right _ _ (by omega), hl, Nat.sub_self]
    rfl
  rw [hs]
  unfold resAt
  rw [List.getElem?_eq_getElem hk]
  simp only
  have hl2 : ((ms.take k).map (resolveM es)).length = k := by simp; omega
  rw [List.append_assoc, List.append_assoc, List.set_append_right _ _ (by omega), hl2, Nat.sub_self]
  rfl

theorem own_len {w : World} {base n : Nat} {e : TypeId} {size : Nat} {v : Value} {xs : List Value} (h : w.ownsRow base e size v n xs) : n ≤ maxLen := by
  rcases h.2 with ⟨_, rfl⟩ | ⟨g, cap, cur, _, _, _, h1, h2, _⟩
  · exact Nat.zero_le _
  · omega
theorem own_form {w : World} {base n : Nat} {e : TypeId} {size : Nat} {v : Value} {xs : List Value} (h : w.ownsRow base e size v n xs) (h0 : 0 < n) :
    ∃ g cap, v = .slice (some ⟨g, 0, none⟩) n cap ∧ (∀ j, j < n * size → w.cell? ⟨g, j, none⟩ = xs[j]?) ∧ base ≤ g := by
  rcases h.2 with ⟨_, rfl⟩ | ⟨g, cap, cur, rfl, hb, _⟩
  · omega
  · exact ⟨g, cap, rfl, fun j hj => h.cellAt j hj, hb⟩

theorem fieldsCells_get : ∀ (fs : List FieldD) (i : Nat) (h : i < fs.length), (fieldsCells fs)[5 * i + 3]? = some (.int .i64 fs[i].kind) ∧ (fieldsCells fs)[5 * i + 4]? = some (.string fs[i].tname)
  | f :: r, 0, _ => by simp [fieldsCells, fieldCells]
  | f :: r, i + 1, h => by
    obtain ⟨h1, h2⟩ := fieldsCells_get r i (by simpa using h)
    have e : fieldsCells (f :: r) = fieldCells f ++ fieldsCells r := rfl
    rw [e, List.getElem?_append_right (by simp [fieldCells]; omega), List.getElem?_append_right (by simp [fieldCells]; omega)]
    refine ⟨?_, ?_⟩
    · simpa [fieldCells, show 5 * (i + 1) + 3 - 5 = 5 * i + 3 by omega] using h1
    · simpa [fieldCells, show 5 * (i + 1) + 4 - 5 = 5 * i + 4 by omega] using h2

theorem own_cells {w : World} {base n g m cap : Nat} {e : TypeId} {size : Nat} {xs : List Value} (h : w.ownsRow base e size (.slice (some ⟨g, 0, none⟩) m cap) n xs) : ∃ cur, w.heap[g]? = some (.cells cur e (0, 0)) := by
  rcases h.2 with ⟨h', _⟩ | ⟨g', cap', cur, h', _, hg, _⟩
  · simp at h'
  · simp only [Value.slice.injEq, Option.some.injEq, Addr.mk.injEq, and_true, true_and] at h'
    obtain ⟨rfl, _⟩ := h'
    exact ⟨cur, hg⟩
theorem KSet.isMap {w : World} {k e : TypeId} {b n : Nat} {S : List Lit} (h : KSet w k e b n S) : ∃ es clock, w.heap[b]? = some (.map es clock) := by
  obtain ⟨D, h1, h2, h3⟩ := h
  obtain ⟨es, clock, q1, q2, q3, q4⟩ := h1
  exact ⟨es, clock, q1⟩

/-- resolve's post: the same values tell the resolved schema. -/
def ResPost (w : World) (B E : Nat) (x : SchemaD) (vm ve vc : Value) (e : Ending) (w' : World) : Prop :=
  (∃ v, e = .returned v) ∧ OwnSchema w' B E (resolveQ x) vm ve vc ∧ Below B w w' ∧ TyKept [26] w w'

theorem infoB : ∀ w : World, (zeroValue 4).run Tryz.prog w = .ok (.bool false) w := fun w => by kernel_rfl

set_option maxHeartbeats 8000000 in
set_option maxRecDepth 100000 in
theorem resolve_calls (bs B E : Nat) (x : SchemaD) (vm ve vc : Value) (w : World) (hx : w.heap[bs]? = some (.cells #[.string x.name, vm, ve, vc] 26 (0, 0))) (hE : E ≤ w.heap.size)
    (ho : OwnSchema w B E x vm ve vc) (hn : ∀ e ∈ x.enums, e.name.size ≤ maxLen) (hm : ∀ m ∈ x.messages, ∀ f ∈ m.fields, f.tname.size ≤ maxLen) :
    Calls Tryz.prog 67 #[.pointer (some ⟨bs, 0, none⟩)] w (ResPost w B E x vm ve vc) := by
  obtain ⟨mcs, ecs, hom, hoe, hoc, hmr, her⟩ := ho
  obtain ⟨mA, mc, rfl⟩ := own_slice hom
  obtain ⟨eA, ec, rfl⟩ := own_slice hoe
  obtain ⟨cA, cc, rfl⟩ := own_slice hoc
  have hc1 := blk_cell hx 1
  have hc2 := blk_cell hx 2
  simp only [List.getElem?_toArray, List.getElem?_cons_succ, List.getElem?_cons_zero] at hc1 hc2
  have hel := own_len hoe
  have hml := own_len hom
  unfold maxLen at hel hml
  have hmk := @run_makeMap Tryz.prog
  have hbsw : bs < w.heap.size := blk_lt hx
  have hcA2 := blk_cell (blk_alloc hx (.map #[] 0)) 2
  simp only [List.getElem?_toArray, List.getElem?_cons_succ, List.getElem?_cons_zero] at hcA2
  replace hx := Lib.hid hx; replace hmr := Lib.hid hmr; replace her := Lib.hid her
  clear hc1 hc2
  go_enter Tryz.func67, Tryz.ntmps67
  go_wp2
  go_loopw [15] (fun i wr => ∃ (k : Nat), k ≤ x.enums.length ∧ i = .int .i64 k ∧ Below w.heap.size w wr ∧ KSet wr 9 4 w.heap.size k (enumKeys (x.enums.take k))) (fun i _ => x.enums.length - (intOf i).toNat)
  case atStart => exact ⟨0, Nat.zero_le _, rfl, (Below.refl _ w).alloc (Nat.le_refl _) _, by simpa [enumKeys] using KSet.made w 9 4⟩
  case round =>
    obtain ⟨k, hk, rfl, hbw, hks⟩ := hrel
    by_cases hlt : k < x.enums.length
    · have hlt' : (k : Int) < (x.enums.length : Int) := by omega
      have hoer := own_ty hoe (TyKept.below (T := [47]) hbw) (by decide)
      obtain ⟨g, cap, hv, hgc, hgl⟩ := own_form hoer (by omega)
      obtain ⟨vA, vc2, hn0, hn1⟩ := EnumRow.get k hlt her.out
      have hcc0 : wr.cell? ⟨g, k * 2, none⟩ = some (.string x.enums[k].name) := by rw [hgc _ (by omega), Nat.mul_comm]; exact hn0
      have hcc1 : wr.cell? ⟨g, k * 2 + 1, none⟩ = some (.slice vA x.enums[k].values.length vc2) := by rw [hgc _ (by omega), Nat.mul_comm]; exact hn1
      have hnm := hn x.enums[k] (List.getElem_mem hlt)
      have hst : Hid (enumKeys (x.enums.take (k + 1)) = sLit x.enums[k].name :: enumKeys (x.enums.take k)) := Lib.hid (by
        unfold enumKeys; rw [List.take_succ_eq_append_getElem hlt, List.map_append, List.reverse_append]; rfl)
      generalize x.enums[k].name = nm at hcc0 hnm hst
      generalize x.enums[k].values.length = vn at hcc1
      injection hv with hv1 hv2 hv3
      subst hv1
      clear hn0 hn1 hgc
      have hks' := Lib.hid hks
      clear hks
      have hksa := hks'.out.kept (Below.heap_alloc wr (.cells #[.string nm, .slice vA vn vc2] 47) w.heap.size hks'.out.lt)
      go_wp2_with (at_mapUpdate; refine wpList_put_true rfl _ _ _ 84 rfl 9 4 (Go.Maps.string_keyed Tryz.underlying9) Tryz.underlying84 Tryz.underlying4 w.heap.size k _ rfl hksa (by unfold maxLen; omega) (.string nm) (sLit nm) rfl rfl (keyOf_str hnm) ?_; intro w2 hks2 hgr2)
      have hb2 := Below.grown (hbw.alloc hbw.size (.cells #[.string nm, .slice vA vn vc2] 47)) hgr2 (by have := hbw.size; simp; omega) (fun j hj => by cases hj; exact Nat.le_refl _)
      replace hks2 := Lib.hid hks2
      go_roundw
      case rel => exact ⟨k + 1, by omega, by go_num, hb2, by rw [hst.out]; exact hks2.out⟩
      case measure => simp [intOf]; omega
    · have hke : k = x.enums.length := by omega
      subst hke
      rw [List.take_length] at hks
      replace hks := Lib.hid hks
      have hcB := (hbw.cell (p := ⟨bs, 1, none⟩) hbsw).trans (blk_cell hx.out 1)
      simp only [List.getElem?_toArray, List.getElem?_cons_succ, List.getElem?_cons_zero] at hcB
      have hmr1 := Lib.hid (hmr.out.kept (TyKept.below hbw))
      have hty1 := Lib.hid (TyKept.below (T := [40, 47, 54, 49, 26]) hbw)
      have hb1 := Lib.hid (hbw.mono (show B ≤ w.heap.size from Nat.le_trans (MsgRow.le hmr.out) hE))
      have hsz1 := hbw.size
      obtain ⟨w1, rfl⟩ : ∃ wo : World, wo = wr := ⟨_, rfl⟩
      have hBE := MsgRow.le hmr.out
      clear hbw
      generalize hN : w.heap.size = bm at hks hsz1 hE hbsw ⊢
      go_wp2
      go_loopw [28] (fun i wr => ∃ (k : Nat), k ≤ x.messages.length ∧ i = .int .i64 k ∧ Below B w wr ∧ KSet wr 9 4 bm x.enums.length (enumKeys x.enums) ∧ MsgRow wr E B (resAt x.enums x.messages k 0) mcs ∧ TyKept [40, 47, 54, 49, 26] w wr ∧ bm ≤ wr.heap.size) (fun i _ => x.messages.length - (intOf i).toNat)
      case atStart => exact ⟨0, Nat.zero_le _, rfl, hb1.out, hks.out, by rw [resAt_zero]; simpa using hmr1.out, hty1.out, hsz1⟩
      case round =>
        obtain ⟨k, hk, rfl, hbk, hksk, hmrk, htyk, hszk⟩ := hrel
        by_cases hlt : k < x.messages.length
        · have hlt' : (k : Int) < (x.messages.length : Int) := by omega
          have homr := own_ty hom htyk (by decide)
          obtain ⟨gm, cap, hv, hgc, hgl⟩ := own_form homr (by omega)
          have hget0 := resAt_get x.enums x.messages k 0 hlt
          obtain ⟨fA, fc, rA, rc, hn0, hn1, hn2, hof⟩ := MsgRow.get k (by rw [resAt_length]; exact hlt) hmrk
          obtain ⟨hlk, hgk⟩ := List.getElem?_eq_some_iff.1 hget0
          rw [hgk] at hn0 hn1 hn2 hof
          simp only [List.take_zero, List.map_nil, List.nil_append, List.drop_zero] at hn0 hn1 hn2 hof
          have hcc0 : wr.cell? ⟨gm, k * 3, none⟩ = some (.string x.messages[k].name) := (hgc (k * 3) (by omega)).trans (by rw [Nat.mul_comm]; exact hn0)
          have hcc1 : wr.cell? ⟨gm, k * 3 + 1, none⟩ = some (.slice fA x.messages[k].fields.length fc) := (hgc (k * 3 + 1) (by omega)).trans (by rw [Nat.mul_comm]; exact hn1)
          have hcc2 : wr.cell? ⟨gm, k * 3 + 2, none⟩ = some (.slice rA x.messages[k].reserved.length rc) := (hgc (k * 3 + 2) (by omega)).trans (by rw [Nat.mul_comm]; exact hn2)
          have hmk' := hm x.messages[k] (List.getElem_mem hlt)
          have hfl := own_len hof
          unfold maxLen at hfl
          injection hv with hv1 hv2 hv3
          subst hv1
          subst hv3
          generalize hM : x.messages[k] = mm at hcc0 hcc1 hcc2 hmk' hfl hn1
          replace hksk := Lib.hid hksk; replace hmrk := Lib.hid hmrk; replace htyk := Lib.hid htyk; replace hn1 := Lib.hid hn1
          replace hM := Lib.hid hM
          clear hgc hn0 hn2 hof hgk hget0 homr hlk
          have hbmsg := heap_alloc_new wr (.cells #[.string mm.name, .slice fA mm.fields.length fc, .slice rA mm.reserved.length rc] 40)
          have hbk2 := Lib.hid (hbk.alloc (show B ≤ wr.heap.size by omega) (.cells #[.string mm.name, .slice fA mm.fields.length fc, .slice rA mm.reserved.length rc] 40))
          replace hbmsg := Lib.hid hbmsg
          obtain ⟨wk, rfl⟩ : ∃ wo : World, wo = wr := ⟨_, rfl⟩
          generalize hbm2 : wk.heap.size = bq at hbmsg hszk ⊢
          go_wp2
          go_loopw [35] (fun j wq => ∃ (i : Nat), i ≤ mm.fields.length ∧ j = .int .i64 i ∧ Below B w wq ∧ KSet wq 9 4 bm x.enums.length (enumKeys x.enums) ∧ MsgRow wq E B (resAt x.enums x.messages k i) mcs ∧ TyKept [40, 47, 54, 49, 26] w wq ∧ bm ≤ wq.heap.size ∧
            wq.heap[bq]? = some (.cells #[.string mm.name, .slice fA mm.fields.length fc, .slice rA mm.reserved.length rc] 40 (0, 0))) (fun j _ => mm.fields.length - (intOf j).toNat)
          case atStart =>
            exact ⟨0, Nat.zero_le _, rfl, hbk2.out, hksk.out.kept (Below.heap_alloc _ _ _ hksk.out.lt), hmrk.out.kept (TyKept.alloc _ _), htyk.out.trans (TyKept.alloc _ _), by simp; omega, by rw [← hbm2]; rw [← hbm2] at hbmsg; exact hbmsg.out⟩
          case round =>
            obtain ⟨i, hi, rfl, hbq, hksq, hmrq, htyq, hszq, hmsg⟩ := hrel
            by_cases hlti : i < mm.fields.length
            · have hlti' : (i : Int) < (mm.fields.length : Int) := by omega
              have hgeti := resAt_get x.enums x.messages k i hlt
              obtain ⟨fA', fc', rA', rc', m0, m1, m2, hofq⟩ := MsgRow.get k (by rw [resAt_length]; exact hlt) hmrq
              obtain ⟨hlk, hgk⟩ := List.getElem?_eq_some_iff.1 hgeti
              rw [hgk, hM.out] at m1 hofq
              simp only at m1 hofq
              have hll : ((mm.fields.take i).map (resolveF x.enums) ++ mm.fields.drop i).length = mm.fields.length := by simp; omega
              rw [hll] at m1 hofq
              have hfa := Option.some.inj (hn1.out.symm.trans m1)
              injection hfa with hfa1 hfa2 hfa3
              subst hfa1; subst hfa3
              obtain ⟨gf, capf, hvf, hgf, _⟩ := own_form hofq (by omega)
              injection hvf with hvf1 hvf2 hvf3
              subst hvf1
              have hgi : ((mm.fields.take i).map (resolveF x.enums) ++ mm.fields.drop i)[i]? = some mm.fields[i] := by
                rw [List.getElem?_append_right (by simp; omega)]; simp [Nat.min_eq_left (Nat.le_of_lt hlti), List.getElem?_eq_getElem hlti]
              obtain ⟨hil, hgi'⟩ := List.getElem?_eq_some_iff.1 hgi
              obtain ⟨q3, q4⟩ := fieldsCells_get _ i hil
              rw [hgi'] at q3 q4
              have hcq3 : wr.cell? ⟨gf, i * 5 + 3, none⟩ = some (.int .i64 mm.fields[i].kind) := (hgf _ (by omega)).trans (by rw [Nat.mul_comm]; exact q3)
              have hcq4 : wr.cell? ⟨gf, i * 5 + 4, none⟩ = some (.string mm.fields[i].tname) := (hgf _ (by omega)).trans (by rw [Nat.mul_comm]; exact q4)
              have htn := hmk' mm.fields[i] (List.getElem_mem hlti)
              have hm1 := Lib.hid hn1.out
              clear m0 m2 hgf q3 q4 hgi hgi' hgk hgeti hlk m1 hn1
              replace hksq := Lib.hid hksq; replace hmrq := Lib.hid hmrq; replace htyq := Lib.hid htyq; replace hofq := Lib.hid hofq; replace hmsg := Lib.hid hmsg
              have hfe := Lib.hid (show resolveF x.enums mm.fields[i] = if mm.fields[i].kind = 7 ∧ x.enums.any (fun e => e.name.toList == mm.fields[i].tname.toList) then { mm.fields[i] with kind := 6 } else mm.fields[i] from rfl)
              obtain ⟨qb, hlook, hqb⟩ := hksq.out.look (Go.Maps.string_keyed Tryz.underlying9) Tryz.underlying84 Tryz.underlying4 (infoB wr) (keyOf_str htn)
              replace hqb := Lib.hid (hqb.trans mem_enumKeys)
              have hcm1 := blk_cell hmsg.out 1
              simp only [List.getElem?_toArray, List.getElem?_cons_succ, List.getElem?_cons_zero] at hcm1
              obtain ⟨wq, rfl⟩ : ∃ wo : World, wo = wr := ⟨_, rfl⟩
              generalize mm.fields[i].tname = tn at hcq4 htn hlook hqb hfe
              have hkeep : qb = false ∨ mm.fields[i].kind ≠ 7 → Hid (resAt x.enums x.messages k (i + 1) = resAt x.enums x.messages k i) := fun hd => Lib.hid (by
                have hM' := hM.out
                subst hM'
                refine resAt_same _ _ _ _ hlt hlti ?_
                rw [hfe.out]
                refine if_neg ?_
                rintro ⟨z1, z2⟩
                rcases hd with hd | hd
                · rw [hqb.out.2 z2] at hd; cases hd
                · exact hd z1)
              by_cases hk7 : mm.fields[i].kind = 7
              · rw [hk7] at hcq3
                cases qb with
                | false =>
                  have hkp := hkeep (Or.inl rfl)
                  clear hkeep hfe hqb
                  replace hk7 := Lib.hid hk7
                  go_wp2
                  go_roundw
                  case rel => exact ⟨i + 1, by omega, by go_num, hbq, hksq.out, by rw [hkp.out]; exact hmrq.out, htyq.out, hszq, hmsg.out⟩
                  case measure => simp [intOf]; omega
                | true =>
                  clear hkeep
                  have hturn := Lib.hid (show resAt x.enums x.messages k (i + 1) = setMsg (resAt x.enums x.messages k i) k i by
                    have hM' := hM.out
                    subst hM'
                    exact resAt_turn _ _ _ _ hlt hlti (by rw [hfe.out]; exact if_pos ⟨hk7, hqb.out.1 rfl⟩))
                  clear hfe hqb
                  replace hk7 := Lib.hid hk7
                  obtain ⟨cur, hcur⟩ := own_cells hofq.out
                  have hfz : wq.frozen? ⟨gf, i * 5 + 3, none⟩ = false := by simp [World.frozen?, hcur]
                  replace hcur := Lib.hid hcur
                  go_wp2
                  go_roundw
                  case rel =>
                    refine ⟨i + 1, by omega, by go_num, hbq.setCell (by simp; omega) _, hksq.out.kept (Below.heap_setCell _ _ _ _ ?_), ?_, htyq.out.trans (TyKept.set hcur.out (by decide) _), by simpa using hszq, (Below.heap_setCell _ _ _ _ ?_).trans hmsg.out⟩
                    · simp only
                      rintro rfl
                      obtain ⟨es, ck, hh⟩ := hksq.out.isMap
                      rw [hcur.out] at hh; cases hh
                    · rw [hturn.out, Nat.mul_comm i 5]
                      exact MsgRow.setKind i k (by rw [resAt_length]; exact hlt) gf _ (by
                        have hgeti := resAt_get x.enums x.messages k i hlt
                        obtain ⟨hlk, hgk⟩ := List.getElem?_eq_some_iff.1 hgeti
                        rw [hgk, hM.out]; simp; omega) (by
                        have hgeti := resAt_get x.enums x.messages k i hlt
                        obtain ⟨hlk, hgk⟩ := List.getElem?_eq_some_iff.1 hgeti
                        rw [hgk, hM.out]
                        have hll : ((mm.fields.take i).map (resolveF x.enums) ++ mm.fields.drop i).length = mm.fields.length := by simp; omega
                        simp only [hll]; exact hm1.out) hmrq.out
                    · simp only
                      rintro rfl
                      have := hmsg.out.symm.trans hcur.out
                      injection this with this
                      injection this with q1 q2
                      revert q2; decide
                  case measure => simp [intOf]; omega
              · have hk7' : ((mm.fields[i].kind : Int) == 7) = false := by simpa using hk7
                have hkp := hkeep (Or.inr hk7)
                clear hkeep hfe hqb
                go_wp2
                go_roundw
                case rel => exact ⟨i + 1, by omega, by go_num, hbq, hksq.out, by rw [hkp.out]; exact hmrq.out, htyq.out, hszq, hmsg.out⟩
                case measure => simp [intOf]; omega
            · have hie : i = mm.fields.length := by omega
              subst hie
              replace hksq := Lib.hid hksq; replace hmrq := Lib.hid hmrq; replace htyq := Lib.hid htyq; replace hmsg := Lib.hid hmsg
              obtain ⟨wq, rfl⟩ : ∃ wo : World, wo = wr := ⟨_, rfl⟩
              go_wp2
              go_roundw
              case rel =>
                exact ⟨k + 1, by omega, by go_num, hbq, hksq.out, by rw [← resAt_end _ _ _ hlt, hM.out]; exact hmrq.out, htyq.out, hszq⟩
              case measure => simp [intOf]; omega
        · have hke : k = x.messages.length := by omega
          subst hke
          have hpost : Hid (OwnSchema wr B E (resolveQ x) (.slice mA x.messages.length mc) (.slice eA x.enums.length ec) (.slice cA x.methods.length cc)) := Lib.hid (by
            refine ⟨mcs, ecs, ?_, own_ty hoe htyk (by decide), own_ty hoc htyk (by decide), ?_, her.out.kept (htyk.mono (by decide))⟩
            · simpa [resolveQ] using own_ty hom htyk (by decide)
            · rw [resAt_zero] at hmrk
              simpa [resolveQ] using hmrk)
          replace hksk := Lib.hid hksk; replace hmrk := Lib.hid hmrk; replace htyk := Lib.hid htyk
          obtain ⟨wk, rfl⟩ : ∃ wo : World, wo = wr := ⟨_, rfl⟩
          go_wp2
          go_end0
          exact ⟨⟨_, rfl⟩, hpost.out, hbk, htyk.out.mono (by decide)⟩

end Go.Proofs.YtkpgaccgcdoijaaGreatDoor

namespace Go.Proofs.YtkpgaccgcdoijaaGreatDoor
open Go.RowKit

/-! ### bounds of the tokens -/
theorem tokFrom_bounds (s : ByteArray) : ∀ (k p : Nat) (acc : List Tok), (∀ t ∈ acc, t.text.size ≤ s.size) → (tokFrom s k p acc).1.length ≤ acc.length + k ∧ ∀ t ∈ (tokFrom s k p acc).1, t.text.size ≤ s.size
  | 0, p, acc, h => ⟨by simp [tokFrom], by simpa [tokFrom] using h⟩
  | k + 1, p, acc, h => by
    simp only [tokFrom]
    split
    · split
      · exact ⟨by simp, by simp⟩
      · have hx : (s.extract p (p + (tokStep s p).2.2)).size ≤ s.size := by simp only [ByteArray.size_extract]; omega
        split
        · have := tokFrom_bounds s k (p + (tokStep s p).2.2) (acc ++ [⟨(tokStep s p).2.1, s.extract p (p + (tokStep s p).2.2), p⟩]) (by
            intro t ht
            rcases List.mem_append.1 ht with ht | ht
            · exact h t ht
            · rw [List.mem_singleton.1 ht]; exact hx)
          refine ⟨?_, this.2⟩
          have h1 := this.1
          simp only [List.length_append, List.length_singleton] at h1
          omega
        · have := tokFrom_bounds s k (p + (tokStep s p).2.2) acc h
          exact ⟨by omega, this.2⟩
    · exact ⟨by simp, h⟩
theorem tokensP_bounds (s : ByteArray) (hs : s.size ≤ maxLen) : (tokensP s).1.length ≤ 16384 ∧ (∀ t ∈ (tokensP s).1, t.text.size ≤ maxLen) := by
  unfold tokensP
  split
  · exact ⟨by simp, by simp⟩
  · have := tokFrom_bounds s s.size 0 [] (by simp)
    exact ⟨by have := this.1; simp at this; omega, fun t ht => Nat.le_trans (this.2 t ht) hs⟩

/-! ### names of a schema stay small -/
theorem nameV_small {s : St} (h : s.Small) : (nameV s).size ≤ maxLen := by
  unfold nameV
  split
  · cases hl : s.l with
    | nil => exact Nat.zero_le _
    | cons k r => exact h k (by rw [hl]; exact List.mem_cons_self)
  · exact Nat.zero_le _
theorem kindFrom_small {s : St} (h : s.Small) : ∀ (ts : List ByteArray) (i : Int), (kindFrom ts i s).2.1.size ≤ maxLen
  | [], i => nameV_small h
  | t :: r, i => by
    simp only [kindFrom]
    split
    · exact Nat.zero_le _
    · exact kindFrom_small h r _
theorem fieldV_small {s : St} (h : s.Small) : (fieldV s).name.size ≤ maxLen ∧ (fieldV s).tname.size ≤ maxLen := ⟨nameV_small h.label.kind, kindFrom_small h.label _ _⟩
theorem messageFromV_small : ∀ (k : Nat) (s : St) (fs : List FieldD) (rs : List Int), s.Small → (∀ f ∈ fs, f.name.size ≤ maxLen ∧ f.tname.size ≤ maxLen) → ∀ f ∈ (messageFrom k s fs rs).2.1, f.name.size ≤ maxLen ∧ f.tname.size ≤ maxLen
  | 0, s, fs, rs, hs, h => h
  | k + 1, s, fs, rs, hs, h => by
    simp only [messageFrom]
    split
    · exact h
    · split
      · exact h
      · split
        · exact messageFromV_small k _ fs _ (((hs.takes _).number.comma _ _).needs _) h
        · exact messageFromV_small k _ _ rs hs.field (by
            intro f hf
            rcases List.mem_append.1 hf with hf | hf
            · exact h f hf
            · rw [List.mem_singleton.1 hf]; exact fieldV_small hs)
theorem messageV_small {s : St} (h : s.Small) : ∀ f ∈ (messageV s).fields, f.name.size ≤ maxLen ∧ f.tname.size ≤ maxLen :=
  messageFromV_small _ _ [] [] (h.name.needs _) (by simp)
theorem schemaFromV_small : ∀ (k : Nat) (s : St) (ms : List MessageD) (es : List EnumD) (cs : List MethodD), s.Small → (∀ m ∈ ms, ∀ f ∈ m.fields, f.name.size ≤ maxLen ∧ f.tname.size ≤ maxLen) → (∀ e ∈ es, e.name.size ≤ maxLen) →
    (∀ m ∈ (schemaFrom k s ms es cs).2.1, ∀ f ∈ m.fields, f.name.size ≤ maxLen ∧ f.tname.size ≤ maxLen) ∧ ∀ e ∈ (schemaFrom k s ms es cs).2.2.1, e.name.size ≤ maxLen
  | 0, s, ms, es, cs, _, h1, h2 => ⟨h1, h2⟩
  | k + 1, s, ms, es, cs, hs, h1, h2 => by
    simp only [schemaFrom]
    split
    · exact ⟨h1, h2⟩
    · split
      · refine schemaFromV_small k _ _ es cs (hs.takes _).message (fun m hm => ?_) h2
        rcases List.mem_append.1 hm with hm | hm
        · exact h1 m hm
        · rw [List.mem_singleton.1 hm]; exact messageV_small (hs.takes _)
      · split
        · refine schemaFromV_small k _ ms _ cs (hs.takes _).enum h1 (fun e he => ?_)
          rcases List.mem_append.1 he with he | he
          · exact h2 e he
          · rw [List.mem_singleton.1 he]; exact nameV_small (hs.takes _)
        · split
          · exact schemaFromV_small k _ ms es _ (hs.takes _).call h1 h2
          · exact schemaFromV_small k _ ms es cs hs h1 h2
theorem schemaV_small {s : St} (h : s.Small) : (∀ m ∈ (schemaV s).messages, ∀ f ∈ m.fields, f.name.size ≤ maxLen ∧ f.tname.size ≤ maxLen) ∧ ∀ e ∈ (schemaV s).enums, e.name.size ≤ maxLen :=
  schemaFromV_small _ _ [] [] [] (((h.needs _).name).needs _) (by simp) (by simp)

theorem own_cap {w : World} {base n m : Nat} {A : Option Addr} {c : Nat} {e : TypeId} {size : Nat} {xs : List Value} (h : w.ownsRow base e size (.slice A m c) n xs) : n ≤ c ∧ c ≤ maxLen := by
  rcases h.2 with ⟨h', rfl⟩ | ⟨g', cap', cur, h', _, hg, h1, h2, _⟩
  · injection h' with _ _ h3
    exact ⟨Nat.zero_le _, by rw [h3]; exact Nat.zero_le _⟩
  · injection h' with _ _ h3
    rw [h3]; exact ⟨h1, h2⟩
theorem sizeAlloc (w : World) (o : Obj) : (w.alloc o).heap.size = w.heap.size + 1 := by simp
theorem Tops.mono {g g' : Nat} (h : Tops g) (hg : g ≤ g') : Tops g' := ⟨Nat.lt_of_lt_of_le h.a hg, Nat.lt_of_lt_of_le h.b hg, Nat.lt_of_lt_of_le h.c hg⟩

theorem OwnSchema.wider {w : World} {B B' E E' : Nat} {x : SchemaD} {vm ve vc : Value} (h : OwnSchema w B E x vm ve vc) (hB : B' ≤ B) (hE : E ≤ E') : OwnSchema w B' E' x vm ve vc := by
  obtain ⟨mcs, ecs, h1, h2, h3, h4, h5⟩ := h
  exact ⟨mcs, ecs, own_mono h1 hB, own_mono h2 hB, own_mono h3 hB, h4.wider hE hB, h5.wider hE hB⟩
theorem OwnSchema.same {w w' : World} {B E : Nat} {x : SchemaD} {vm ve vc : Value} (h : OwnSchema w B E x vm ve vc) (hk : ∀ k, B ≤ k → w'.heap[k]? = w.heap[k]?) : OwnSchema w' B E x vm ve vc := by
  obtain ⟨mcs, ecs, h1, h2, h3, h4, h5⟩ := h
  exact ⟨mcs, ecs, own_same h1 hk, own_same h2 hk, own_same h3 hk, h4.same hk, h5.same hk⟩
theorem OwnSchema.none (w : World) {B E : Nat} (h : B ≤ E) : OwnSchema w B E noSchema (.slice none 0 0) (.slice none 0 0) (.slice none 0 0) :=
  ⟨[], [], ⟨rfl, .inl ⟨rfl, rfl⟩⟩, ⟨rfl, .inl ⟨rfl, rfl⟩⟩, ⟨rfl, .inl ⟨rfl, rfl⟩⟩, ⟨rfl, h⟩, ⟨rfl, h⟩⟩
theorem OwnSchema.kept {w w' : World} {B E : Nat} {x : SchemaD} {vm ve vc : Value} (h : OwnSchema w B E x vm ve vc) (hk : TyKept [40, 47, 54, 44, 3, 49] w w') : OwnSchema w' B E x vm ve vc := by
  obtain ⟨mcs, ecs, h1, h2, h3, h4, h5⟩ := h
  exact ⟨mcs, ecs, own_ty h1 hk (by decide), own_ty h2 hk (by decide), own_ty h3 hk (by decide), h4.kept (hk.mono (by decide)), h5.kept (hk.mono (by decide))⟩

def ParsePost (s : ByteArray) (w : World) (e : Ending) (w' : World) : Prop :=
  ∃ vm ve vc, e = .returned (.tuple #[.agg #[.string (parseQ s).1.name, vm, ve, vc], .int .i64 (parseQ s).2.1, .int .i64 (parseQ s).2.2]) ∧ OwnSchema w' w.heap.size w'.heap.size (parseQ s).1 vm ve vc ∧ Below w.heap.size w w'

set_option maxHeartbeats 8000000 in
set_option maxRecDepth 100000 in
theorem parse_calls (s : ByteArray) (w : World) (hT : Tabs w) (hs : s.size ≤ maxLen) : Calls Tryz.prog 45 #[.string s] w (ParsePost s w) := by
  have hs' := hs
  unfold maxLen at hs'
  obtain ⟨hL, hz⟩ := tokensP_bounds s hs
  have hq : parseQ s = if (tokensP s).2.2 ≠ 0 then (noSchema, (tokensP s).2.1, (tokensP s).2.2) else if (schemaS ⟨(tokensP s).1, false⟩).bad = false then (resolveQ (schemaV ⟨(tokensP s).1, false⟩), 0, 0)
    else match (schemaS ⟨(tokensP s).1, false⟩).l with | k :: _ => (noSchema, k.pos, 5) | [] => (noSchema, s.size, 5) := rfl
  replace hq := Lib.hid hq
  have hbl := heap_alloc_new w (.cells #[.string noText, .slice none 0 0, .slice none 0 0, .slice none 0 0] 26)
  have hT1 : Tabs (w.alloc (.cells #[.string noText, .slice none 0 0, .slice none 0 0, .slice none 0 0] 26)) := hT.below ((Below.refl _ w).alloc (Nat.le_refl _) _)
  have cT := tokens_calls s _ hT1 hs
  generalize tokensP s = r at hq cT hL hz
  replace cT := Lib.hid cT; replace hbl := Lib.hid hbl; replace hT1 := Lib.hid hT1; replace hT := Lib.hid hT
  go_enter Tryz.func45, Tryz.ntmps45
  go_wp2_with fail
  refine cT.out.mono ?_; rintro e w1 ⟨tv, rfl, hrow, hb1⟩
  rw [sizeAlloc] at hrow hb1
  obtain ⟨tA, tc, rfl⟩ := own_slice hrow
  replace hrow := Lib.hid hrow; replace hb1 := Lib.hid hb1
  have hbl1 : w1.heap[w.heap.size]? = _ := (hb1.out.block _ (by omega)).trans hbl.out
  have hsz1 : w.heap.size + 1 ≤ w1.heap.size := by have := hb1.out.size; simpa using this
  have hc0 := blk_cell hbl1 0
  have hc1 := blk_cell hbl1 1
  have hc2 := blk_cell hbl1 2
  have hc3 := blk_cell hbl1 3
  simp only [List.getElem?_toArray, List.getElem?_cons_succ, List.getElem?_cons_zero] at hc0 hc1 hc2 hc3
  by_cases hcode : r.2.2 = 0
  · rw [if_neg (by simpa using hcode)] at hq
    have hne : ((r.2.2 : Int) == 0) = true := by simpa using hcode
    have hps : PS (w1.heap.size + 1) w1.heap.size ⟨r.1, false⟩ (w1.alloc (.cells #[.slice tA r.1.length tc, .bool false] 110)) := by
      have hlen := own_cap hrow.out
      refine ⟨⟨Nat.lt_succ_self _, hT.out.tops.mono (by omega)⟩, tA, tc, heap_alloc_new _ _, hlen.1, hlen.2, ?_⟩
      intro hl
      obtain ⟨b, cap, hv, hc, hb⟩ := own_form hrow.out (List.length_pos_iff.2 hl)
      injection hv with hv1 hv2 hv3
      subst hv1
      have hlt := (hrow.out.lt b rfl).2
      refine ⟨b, 0, rfl, by omega, by omega, fun j v hj => ?_⟩
      obtain ⟨hj1, _⟩ := List.getElem?_eq_some_iff.1 hj
      rw [hrow.out.1] at hj1
      rw [Nat.zero_add]
      exact (World.cell?_of_block (w := w1) (Below.heap_alloc w1 _ b hlt)).trans ((hc j hj1).trans hj)
    replace hps := Lib.hid hps
    have hB1 := Lib.hid ((((Below.refl _ w).alloc (Nat.le_refl _) (.cells #[.string noText, .slice none 0 0, .slice none 0 0, .slice none 0 0] 26)).trans (hb1.out.mono (Nat.le_succ _))).alloc (Nat.le_of_lt hsz1) (.cells #[.slice tA r.1.length tc, .bool false] 110))
    have cS := Lib.hid (schema_calls _ _ ⟨r.1, false⟩ _ hps.out (hT.out.below hB1.out) (by simp) hz (by simp only; omega))
    have hbl2 : (w1.alloc (.cells #[.slice tA r.1.length tc, .bool false] 110)).heap[w.heap.size]? = _ := (Below.heap_alloc w1 _ _ (by omega)).trans hbl1
    replace hbl2 := Lib.hid hbl2
    clear hc0 hc1 hc2 hc3
    replace hbl1 := Lib.hid hbl1
    go_wp2_with fail
    refine cS.out.mono ?_; rintro e w2 ⟨vm, ve, vc, rfl, hp2, hg2, ho2⟩
    rw [sizeAlloc] at ho2
    have hbl3 : w2.heap[w.heap.size]? = _ := (hg2.block _ (by simp; omega) (by simp; omega)).trans hbl2.out
    have hsz2 : w1.heap.size + 1 ≤ w2.heap.size := by have := hg2.size; simpa using this
    have hB2 := Lib.hid (hB1.out.grown hg2 (by simp; omega) (fun k hk => by cases hk; omega))
    have hsm := schemaV_small (s := ⟨r.1, false⟩) hz
    replace hq := Lib.hid hq.out
    obtain ⟨mA, mc, rfl⟩ := own_slice ho2.choose_spec.choose_spec.1
    obtain ⟨eA, ec, rfl⟩ := own_slice ho2.choose_spec.choose_spec.2.1
    obtain ⟨cA, cc, rfl⟩ := own_slice ho2.choose_spec.choose_spec.2.2.1
    generalize schemaV ⟨r.1, false⟩ = x at hq ho2 hsm
    generalize schemaS ⟨r.1, false⟩ = st at hq hp2
    have hown3 := Lib.hid (ho2.kept (TyKept.alloc w2 (.cells #[.string x.name, .slice mA x.messages.length mc, .slice eA x.enums.length ec, .slice cA x.methods.length cc] 26)))
    have hp3 := Lib.hid (hp2.alloc (by omega) (.cells #[.string x.name, .slice mA x.messages.length mc, .slice eA x.enums.length ec, .slice cA x.methods.length cc] 26))
    have hbn := Lib.hid (heap_alloc_new w2 (.cells #[.string x.name, .slice mA x.messages.length mc, .slice eA x.enums.length ec, .slice cA x.methods.length cc] 26))
    obtain ⟨pA, pc, hpc0, hpc1, hpl, hpm, hprow⟩ := hp3.out.cell0
    have hbl4 := Lib.hid ((Below.heap_alloc w2 (.cells #[.string x.name, .slice mA x.messages.length mc, .slice eA x.enums.length ec, .slice cA x.methods.length cc] 26) _ (by omega)).trans hbl3)
    have hB3 := Lib.hid (hB2.out.alloc (by omega) (.cells #[.string x.name, .slice mA x.messages.length mc, .slice eA x.enums.length ec, .slice cA x.methods.length cc] 26))
    clear hbl3 ho2 hp2
    replace hprow := Lib.hid hprow
    cases hbad : st.bad with
    | false =>
      rw [hbad] at hpc1
      have hqf : Hid (parseQ s = (resolveQ x, 0, 0)) := Lib.hid (by rw [hq.out, if_pos hbad])
      replace hbad := Lib.hid hbad
      clear hq
      go_wp2_with fail
      refine (resolve_calls w2.heap.size (w1.heap.size + 1 + 1) w2.heap.size x _ _ _ _ hbn.out (by simp) hown3.out hsm.2 (fun m hm f hf => (hsm.1 m hm f hf).2)).mono ?_; rintro e w3 ⟨⟨v, rfl⟩, ho4, hb4, hk4⟩
      have hbn4 := (hk4 _ _ _ _ hbn.out (by decide)).trans hbn.out
      have hbl5 := (hb4.block _ (by omega)).trans hbl4.out
      have hB4 := Lib.hid (hB3.out.trans (hb4.mono (by omega)))
      have hfr : ∀ j, w3.frozen? ⟨w.heap.size, j, none⟩ = false := fun j => by simp [World.frozen?, hbl5]
      have hd0 := blk_cell hbn4 0
      have hd1 := blk_cell hbn4 1
      have hd2 := blk_cell hbn4 2
      have hd3 := blk_cell hbn4 3
      simp only [List.getElem?_toArray, List.getElem?_cons_succ, List.getElem?_cons_zero] at hd0 hd1 hd2 hd3
      have hc0 := blk_cell hbl5 0
      have hc1 := blk_cell hbl5 1
      have hc2 := blk_cell hbl5 2
      have hc3 := blk_cell hbl5 3
      simp only [List.getElem?_toArray, List.getElem?_cons_succ, List.getElem?_cons_zero] at hc0 hc1 hc2 hc3
      have hsz3 : w2.heap.size ≤ w3.heap.size := by have := hb4.size; simp at this; omega
      replace hk4 := Lib.hid hk4; replace hb4 := Lib.hid hb4; replace ho4 := Lib.hid ho4; replace hbl5 := Lib.hid hbl5
      replace hbn4 := Lib.hid hbn4
      go_wp2
      refine bodyPost_ret (v := .tuple #[.agg #[.string x.name, .slice mA x.messages.length mc, .slice eA x.enums.length ec, .slice cA x.methods.length cc], .int .i64 0, .int .i64 0]) (by simp [results, Tryz.results45, go_sem, *]) rfl ?_
      refine ⟨.slice mA x.messages.length mc, .slice eA x.enums.length ec, .slice cA x.methods.length cc, by rw [hqf.out]; rfl, ?_, ?_⟩
      · rw [hqf.out]
        exact (ho4.out.wider (Nat.le_refl _) (by simp; omega)).same (fun k hk => set4_same _ _ _ _ k (by omega)) |>.wider (by omega) (Nat.le_refl _)
      · exact hB4.out.setCell (Nat.le_refl _) _ |>.setCell (Nat.le_refl _) _ |>.setCell (Nat.le_refl _) _ |>.setCell (Nat.le_refl _) _
    | true =>
      rw [hbad] at hpc1
      have hqt : Hid (parseQ s = match st.l with | k :: _ => (noSchema, k.pos, 5) | [] => (noSchema, s.size, 5)) := Lib.hid (by rw [hq.out, if_neg (by rw [hbad]; decide)])
      replace hbad := Lib.hid hbad
      clear hq
      have hbl5 := hbl4.out
      have hfr : ∀ j, (w2.alloc (.cells #[.string x.name, .slice mA x.messages.length mc, .slice eA x.enums.length ec, .slice cA x.methods.length cc] 26)).frozen? ⟨w.heap.size, j, none⟩ = false := fun j => by simp [World.frozen?, hbl5]
      have hc0 := blk_cell hbl5 0
      have hc1 := blk_cell hbl5 1
      have hc2 := blk_cell hbl5 2
      have hc3 := blk_cell hbl5 3
      simp only [List.getElem?_toArray, List.getElem?_cons_succ, List.getElem?_cons_zero] at hc0 hc1 hc2 hc3
      replace hbl5 := Lib.hid hbl5
      generalize st.l = sl at hqt hpc0 hpl hprow
      cases sl with
      | nil =>
        go_wp2
        refine bodyPost_ret (v := .tuple #[.agg #[.string noText, .slice none 0 0, .slice none 0 0, .slice none 0 0], .int .i64 s.size, .int .i64 5]) (by simp [results, Tryz.results45, go_sem, *, noText]) rfl ?_
        refine ⟨.slice none 0 0, .slice none 0 0, .slice none 0 0, by rw [hqt.out]; rfl, by rw [hqt.out]; exact OwnSchema.none _ (by simp; omega), ?_⟩
        exact hB3.out.setCell (Nat.le_refl _) _ |>.setCell (Nat.le_refl _) _ |>.setCell (Nat.le_refl _) _ |>.setCell (Nat.le_refl _) _
      | cons tk rest =>
        obtain ⟨tb, tf, rfl, htg, htN, ht0, ht1, ht2, htr⟩ := hprow.out.head
        replace htr := Lib.hid htr
        have htb : tb ≠ w.heap.size := by
          rintro rfl
          have h0 := ht0
          simp only [World.cell?, hbl5.out] at h0
          match tf, h0 with
          | 0, h0 => simp at h0
          | 1, h0 => simp at h0
          | 2, h0 => simp at h0
          | 3, h0 => simp at h0
          | n + 4, h0 => simp at h0
        go_upto_region 10 with fail
        go_region
        go_wp2
        refine bodyPost_ret (v := .tuple #[.agg #[.string noText, .slice none 0 0, .slice none 0 0, .slice none 0 0], .int .i64 tk.pos, .int .i64 5]) (by simp [results, Tryz.results45, go_sem, *, noText]) rfl ?_
        refine ⟨.slice none 0 0, .slice none 0 0, .slice none 0 0, by rw [hqt.out]; rfl, by rw [hqt.out]; exact OwnSchema.none _ (by simp; omega), ?_⟩
        exact (hB3.out.setCell (Nat.le_refl _) _ |>.setCell (Nat.le_refl _) _ |>.setCell (Nat.le_refl _) _ |>.setCell (Nat.le_refl _) _).drew

  · have hne : ((r.2.2 : Int) == 0) = false := by simpa using hcode
    rw [if_pos hcode] at hq
    have hfr : ∀ j, w1.frozen? ⟨w.heap.size, j, none⟩ = false := fun j => by simp [World.frozen?, hbl1]
    go_wp2
    refine bodyPost_ret (v := .tuple #[.agg #[.string noText, .slice none 0 0, .slice none 0 0, .slice none 0 0], .int .i64 r.2.1, .int .i64 r.2.2]) (by simp [results, Tryz.results45, go_sem, *, noText]) rfl ?_
    refine ⟨.slice none 0 0, .slice none 0 0, .slice none 0 0, by rw [hq.out]; rfl, by rw [hq.out]; exact OwnSchema.none _ (by simp; omega), ?_⟩
    exact (((((Below.refl _ w).alloc (Nat.le_refl _) _).trans (hb1.out.mono (by omega))).setCell (Nat.le_refl _) _).setCell (Nat.le_refl _) _ |>.setCell (Nat.le_refl _) _ |>.setCell (Nat.le_refl _) _)

end Go.Proofs.YtkpgaccgcdoijaaGreatDoor

namespace Go.Proofs.YtkpgaccgcdoijaaGreatDoor
open Go.RowKit

/-! ### what is read alone: rows in blocks of S -/
def Rd (w : World) (S : Nat → Prop) (size : Nat) (v : Value) (n : Nat) (xs : List Value) : Prop :=
  xs.length = n * size ∧ ∃ A c, v = .slice A n c ∧ n ≤ c ∧ c ≤ maxLen ∧ (n ≠ 0 → ∃ b o, A = some ⟨b, o, none⟩ ∧ S b ∧ ∀ j, j < n * size → w.cell? ⟨b, o + j, none⟩ = xs[j]?)
theorem Rd.kept {w w' : World} {S S' : Nat → Prop} {size : Nat} {v : Value} {n : Nat} {xs : List Value} (h : Rd w S size v n xs) (hb : ∀ b, S b → w'.heap[b]? = w.heap[b]?) (hS : ∀ b, S b → S' b) : Rd w' S' size v n xs := by
  obtain ⟨h1, A, c, h2, h3, h4, h5⟩ := h
  refine ⟨h1, A, c, h2, h3, h4, fun hn => ?_⟩
  obtain ⟨b, o, e1, e2, e3⟩ := h5 hn
  exact ⟨b, o, e1, hS b e2, fun j hj => (World.cell?_of_block (w := w) (hb b e2)).trans (e3 j hj)⟩
theorem Rd.form {w : World} {S : Nat → Prop} {size : Nat} {v : Value} {n : Nat} {xs : List Value} (h : Rd w S size v n xs) (hn : 0 < n) :
    ∃ b o c, v = .slice (some ⟨b, o, none⟩) n c ∧ S b ∧ (∀ j, j < n * size → w.cell? ⟨b, o + j, none⟩ = xs[j]?) := by
  obtain ⟨h1, A, c, h2, h3, h4, h5⟩ := h
  obtain ⟨b, o, e1, e2, e3⟩ := h5 (by omega)
  subst e1
  exact ⟨b, o, c, h2, e2, e3⟩
theorem Rd.slice {w : World} {S : Nat → Prop} {size : Nat} {v : Value} {n : Nat} {xs : List Value} (h : Rd w S size v n xs) : ∃ A c, v = .slice A n c := by
  obtain ⟨h1, A, c, h2, _⟩ := h
  exact ⟨A, c, h2⟩
theorem Rd.len {w : World} {S : Nat → Prop} {size : Nat} {v : Value} {n : Nat} {xs : List Value} (h : Rd w S size v n xs) : n ≤ maxLen := by
  obtain ⟨h1, A, c, h2, h3, h4, _⟩ := h
  omega
theorem Rd.own {w : World} {base size n : Nat} {e : TypeId} {v : Value} {xs : List Value} (h : w.ownsRow base e size v n xs) : Rd w (fun b => b < w.heap.size) size v n xs := by
  refine ⟨h.1, ?_⟩
  rcases h.2 with ⟨rfl, rfl⟩ | ⟨g, cap, cur, rfl, hb, hh, h1, h2, _⟩
  · exact ⟨none, 0, rfl, Nat.le_refl _, Nat.zero_le _, fun h0 => absurd rfl h0⟩
  · exact ⟨_, cap, rfl, h1, h2, fun _ => ⟨g, 0, rfl, blk_lt hh, fun j hj => by rw [Nat.zero_add]; exact h.cellAt j hj⟩⟩

def MsgRd (w : World) (S : Nat → Prop) : List MessageD → List Value → Prop
  | [], cs => cs = []
  | m :: r, cs => ∃ vf vr rest, cs = .string m.name :: vf :: vr :: rest ∧ Rd w S 5 vf m.fields.length (fieldsCells m.fields) ∧ Rd w S 1 vr m.reserved.length (intsCells m.reserved) ∧ MsgRd w S r rest
def EnumRd (w : World) (S : Nat → Prop) : List EnumD → List Value → Prop
  | [], cs => cs = []
  | m :: r, cs => ∃ vf rest, cs = .string m.name :: vf :: rest ∧ Rd w S 2 vf m.values.length (namedsCells m.values) ∧ EnumRd w S r rest
theorem MsgRd.kept {w w' : World} {S S' : Nat → Prop} (hb : ∀ b, S b → w'.heap[b]? = w.heap[b]?) (hS : ∀ b, S b → S' b) : ∀ {l : List MessageD} {cs : List Value}, MsgRd w S l cs → MsgRd w' S' l cs
  | [], _, h => h
  | _ :: _, _, ⟨vf, vr, rest, h1, h2, h3, h4⟩ => ⟨vf, vr, rest, h1, h2.kept hb hS, h3.kept hb hS, h4.kept hb hS⟩
theorem EnumRd.kept {w w' : World} {S S' : Nat → Prop} (hb : ∀ b, S b → w'.heap[b]? = w.heap[b]?) (hS : ∀ b, S b → S' b) : ∀ {l : List EnumD} {cs : List Value}, EnumRd w S l cs → EnumRd w' S' l cs
  | [], _, h => h
  | _ :: _, _, ⟨vf, rest, h1, h2, h4⟩ => ⟨vf, rest, h1, h2.kept hb hS, h4.kept hb hS⟩
theorem MsgRd.get {w : World} {S : Nat → Prop} : ∀ {l : List MessageD} {cs : List Value} (k : Nat) (h : k < l.length), MsgRd w S l cs → ∃ vf vr, cs[k * 3]? = some (.string l[k].name) ∧ cs[k * 3 + 1]? = some vf ∧ cs[k * 3 + 2]? = some vr ∧
      Rd w S 5 vf l[k].fields.length (fieldsCells l[k].fields) ∧ Rd w S 1 vr l[k].reserved.length (intsCells l[k].reserved)
  | m :: r, _, 0, _, ⟨vf, vr, rest, e1, e2, e3, _⟩ => ⟨vf, vr, by rw [e1]; rfl, by rw [e1]; rfl, by rw [e1]; rfl, e2, e3⟩
  | m :: r, _, k + 1, h, ⟨vf, vr, rest, e1, _, _, e7⟩ => by
    obtain ⟨A, B, h1, h2, h3, h4, h5⟩ := MsgRd.get k (by simpa using h) e7
    refine ⟨A, B, ?_, ?_, ?_, h4, h5⟩
    · rw [e1, show (k + 1) * 3 = k * 3 + 1 + 1 + 1 by omega]; simpa using h1
    · rw [e1, show (k + 1) * 3 + 1 = (k * 3 + 1) + 1 + 1 + 1 by omega]; simpa using h2
    · rw [e1, show (k + 1) * 3 + 2 = (k * 3 + 2) + 1 + 1 + 1 by omega]; simpa using h3
theorem EnumRd.get {w : World} {S : Nat → Prop} : ∀ {l : List EnumD} {cs : List Value} (k : Nat) (h : k < l.length), EnumRd w S l cs → ∃ vf, cs[k * 2]? = some (.string l[k].name) ∧ cs[k * 2 + 1]? = some vf ∧ Rd w S 2 vf l[k].values.length (namedsCells l[k].values)
  | m :: r, _, 0, _, ⟨vf, rest, e1, e2, _⟩ => ⟨vf, by rw [e1]; rfl, by rw [e1]; rfl, e2⟩
  | m :: r, _, k + 1, h, ⟨vf, rest, e1, _, e7⟩ => by
    obtain ⟨A, h1, h2, h3⟩ := EnumRd.get k (by simpa using h) e7
    refine ⟨A, ?_, ?_, h3⟩
    · rw [e1, show (k + 1) * 2 = k * 2 + 1 + 1 by omega]; simpa using h1
    · rw [e1, show (k + 1) * 2 + 1 = (k * 2 + 1) + 1 + 1 by omega]; simpa using h2
theorem MsgRd.own {w : World} {E : Nat} : ∀ {B : Nat} {l : List MessageD} {cs : List Value}, MsgRow w E B l cs → MsgRd w (fun b => b < w.heap.size) l cs
  | _, [], _, h => h.1
  | _, _ :: _, _, ⟨vf, vr, rest, _, e1, e2, e3, _, _, _, e7⟩ => ⟨vf, vr, rest, e1, Rd.own e2, Rd.own e3, MsgRd.own e7⟩
theorem EnumRd.own {w : World} {E : Nat} : ∀ {B : Nat} {l : List EnumD} {cs : List Value}, EnumRow w E B l cs → EnumRd w (fun b => b < w.heap.size) l cs
  | _, [], _, h => h.1
  | _, _ :: _, _, ⟨vf, rest, _, e1, e2, _, _, e7⟩ => ⟨vf, rest, e1, Rd.own e2, EnumRd.own e7⟩

/-- A schema's value that is read. -/
def SchemaRd (w : World) (S : Nat → Prop) (x : SchemaD) (vm ve vc : Value) : Prop :=
  ∃ mcs ecs, Rd w S 3 vm x.messages.length mcs ∧ Rd w S 2 ve x.enums.length ecs ∧ Rd w S 3 vc x.methods.length (methodsCells x.methods) ∧ MsgRd w S x.messages mcs ∧ EnumRd w S x.enums ecs
theorem SchemaRd.kept {w w' : World} {S S' : Nat → Prop} {x : SchemaD} {vm ve vc : Value} (h : SchemaRd w S x vm ve vc) (hb : ∀ b, S b → w'.heap[b]? = w.heap[b]?) (hS : ∀ b, S b → S' b) : SchemaRd w' S' x vm ve vc := by
  obtain ⟨mcs, ecs, h1, h2, h3, h4, h5⟩ := h
  exact ⟨mcs, ecs, h1.kept hb hS, h2.kept hb hS, h3.kept hb hS, h4.kept hb hS, h5.kept hb hS⟩
theorem SchemaRd.own {w : World} {B E : Nat} {x : SchemaD} {vm ve vc : Value} (h : OwnSchema w B E x vm ve vc) : SchemaRd w (fun b => b < w.heap.size) x vm ve vc := by
  obtain ⟨mcs, ecs, h1, h2, h3, h4, h5⟩ := h
  exact ⟨mcs, ecs, Rd.own h1, Rd.own h2, Rd.own h3, MsgRd.own h4, EnumRd.own h5⟩

/-- Every number of a schema is an int, every text has a length. -/
def i64B (n : Int) : Prop := -9223372036854775808 ≤ n ∧ n ≤ 9223372036854775807
structure FieldD.Fit (f : FieldD) : Prop where
  name : f.name.size ≤ maxLen
  tname : f.tname.size ≤ maxLen
  tag : i64B f.tag
  label : i64B f.label
  kind : i64B f.kind
structure MessageD.Fit (m : MessageD) : Prop where
  name : m.name.size ≤ maxLen
  fields : ∀ f ∈ m.fields, f.Fit
  reserved : ∀ n ∈ m.reserved, i64B n
structure EnumD.Fit (m : EnumD) : Prop where
  name : m.name.size ≤ maxLen
  values : ∀ v ∈ m.values, v.name.size ≤ maxLen ∧ i64B v.n
structure MethodD.Fit (m : MethodD) : Prop where
  name : m.name.size ≤ maxLen
  inp : m.inp.size ≤ maxLen
  outp : m.outp.size ≤ maxLen
structure SchemaD.Fit (x : SchemaD) : Prop where
  name : x.name.size ≤ maxLen
  messages : ∀ m ∈ x.messages, m.Fit
  enums : ∀ m ∈ x.enums, m.Fit
  methods : ∀ m ∈ x.methods, m.Fit

/-! ### check: the plain functions -/
def tagB (n : Int) : Bool := decide (1 ≤ n) && decide (n ≤ 500)
def hasB (S : List ByteArray) (s : ByteArray) : Bool := S.any (fun t => t.toList == s.toList)
def takesB (S : List ByteArray) (s : ByteArray) : Bool := nameP s && !hasB S s
def takesN (S : List ByteArray) (s : ByteArray) : List ByteArray := if takesB S s then s :: S else S
theorem hasB_lit {S : List ByteArray} {s : ByteArray} : sLit s ∈ S.map sLit ↔ hasB S s = true := by
  simp only [hasB, List.mem_map, List.any_eq_true, beq_iff_eq]
  constructor
  · rintro ⟨e, he, h⟩
    exact ⟨e, he, sLit_inj.1 h⟩
  · rintro ⟨e, he, h⟩
    exact ⟨e, he, sLit_inj.2 h⟩

set_option maxHeartbeats 1000000 in
theorem tag_calls (n : Int) (w : World) (h : i64B n) : Calls Tryz.prog 80 #[.int .i64 n] w fun e w' => e = .returned (.bool (tagB n)) ∧ w' = w := by
  obtain ⟨h1, h2⟩ := h
  have ht : tagB n = (decide (1 ≤ n) && decide (n ≤ 500)) := rfl
  by_cases a : 1 ≤ n
  · by_cases b : n ≤ 500
    · rw [decide_eq_true a, decide_eq_true b] at ht
      replace ht := Lib.hid ht
      go_enter Tryz.func80, Tryz.ntmps80
      go_wp2
      go_ret
      exact ⟨ret_bool ht.out.symm, rfl⟩
    · rw [decide_eq_true a, decide_eq_false b] at ht
      replace ht := Lib.hid ht
      go_enter Tryz.func80, Tryz.ntmps80
      go_wp2
      go_ret
      exact ⟨ret_bool ht.out.symm, rfl⟩
  · rw [decide_eq_false a] at ht
    replace ht := Lib.hid ht
    go_enter Tryz.func80, Tryz.ntmps80
    go_wp2
    go_ret
    exact ⟨ret_bool ht.out.symm, rfl⟩

end Go.Proofs.YtkpgaccgcdoijaaGreatDoor

import Derived.Test.YtkpgaccgcdoijaaGreatDoorZSch2
import Derived.Lib.ItoaLen
namespace Go.Proofs.YtkpgaccgcdoijaaGreatDoor
open Go.RowKit

/-! ### turned about -/
def revM (m : MessageD) : MessageD := { m with fields := m.fields.reverse, reserved := m.reserved.reverse }
def revE (e : EnumD) : EnumD := { e with values := e.values.reverse }
def revS (x : SchemaD) : SchemaD := { x with messages := x.messages.map revM, enums := x.enums.map revE }

theorem filter_nodup {α : Type} (key : α → Int) (v : Int) : ∀ (l : List α), (l.map key).Nodup → (l.filter (keyIs key v)).length ≤ 1
  | [], _ => by simp
  | a :: r, h => by
    rw [List.map_cons, List.nodup_cons] at h
    have ih := filter_nodup key v r h.2
    by_cases ha : key a = v
    · have hr : r.filter (keyIs key v) = [] := by
        rw [List.filter_eq_nil_iff]
        intro b hb hk
        simp only [keyIs, decide_eq_true_eq] at hk
        exact h.1 (by rw [ha, ← hk]; exact List.mem_map_of_mem hb)
      rw [List.filter_cons_of_pos (by simp [keyIs, ha]), hr]
      simp
    · rw [List.filter_cons_of_neg (by simp [keyIs, ha])]
      exact ih
theorem reverse_short {α : Type} (l : List α) (h : l.length ≤ 1) : l.reverse = l := by
  match l, h with
  | [], _ => rfl
  | [a], _ => rfl
  | a :: b :: r, h => simp at h
theorem sortBy_reverse {α : Type} (key : α → Int) (l : List α) (h : (l.map key).Nodup) : sortBy key l.reverse = sortBy key l := by
  refine sortBy_of key l _ (sortBy_sorted key _) (fun v => ?_)
  rw [sortBy_filter, List.filter_reverse, reverse_short _ (filter_nodup key v l h)]

theorem resvP_nodup : ∀ (l T R : List Int), resvP l T = some R → T.Nodup → l.Nodup ∧ ∀ n ∈ l, n ∉ T
  | [], _, _, _, _ => ⟨List.nodup_nil, by simp⟩
  | n :: r, T, R, h, hT => by
    simp only [resvP] at h
    split at h
    · rename_i hc
      simp only [Bool.and_eq_true, Bool.not_eq_true', List.contains_eq_mem, decide_eq_false_iff_not] at hc
      have ih := resvP_nodup r (n :: T) R h (List.nodup_cons.2 ⟨hc.2, hT⟩)
      refine ⟨List.nodup_cons.2 ⟨fun hn => ih.2 n hn (List.mem_cons_self ..), ih.1⟩, fun k hk => ?_⟩
      rcases List.mem_cons.1 hk with rfl | hk
      · exact hc.2
      · exact fun hkT => ih.2 k hk (List.mem_cons_of_mem _ hkT)
    · cases h
theorem fldsP_nodup {x : SchemaD} : ∀ (l : List FieldD) (F : List ByteArray) (T : List Int), fldsP x l F T = 0 → (l.map FieldD.tag).Nodup ∧ ∀ f ∈ l, f.tag ∉ T
  | [], _, _, _ => ⟨List.nodup_nil, by simp⟩
  | f :: r, F, T, h => by
    simp only [fldsP] at h
    split at h
    · cases h
    · split at h
      · cases h
      · rename_i hc
        split at h
        · cases h
        · have hcT : f.tag ∉ T := by
            simp only [Bool.or_eq_true, Bool.not_eq_true', not_or] at hc
            simpa using hc.2
          have ih := fldsP_nodup r _ _ h
          refine ⟨List.nodup_cons.2 ⟨fun hn => ?_, ih.1⟩, fun k hk => ?_⟩
          · obtain ⟨g, hg, he⟩ := List.mem_map.1 hn
            exact ih.2 g hg (by rw [he]; exact List.mem_cons_self ..)
          · rcases List.mem_cons.1 hk with rfl | hk
            · exact hcT
            · exact fun hkT => ih.2 k hk (List.mem_cons_of_mem _ hkT)
theorem valsP_nodup : ∀ (l : List NamedD) (F : List ByteArray) (T : List Int), valsP l F T = 0 → (l.map NamedD.n).Nodup ∧ ∀ f ∈ l, f.n ∉ T
  | [], _, _, _ => ⟨List.nodup_nil, by simp⟩
  | f :: r, F, T, h => by
    simp only [valsP] at h
    split at h
    · cases h
    · split at h
      · cases h
      · rename_i hc
        have hcT : f.n ∉ T := by
          simp only [not_or] at hc
          simpa using hc.2.2
        have ih := valsP_nodup r _ _ h
        refine ⟨List.nodup_cons.2 ⟨fun hn => ?_, ih.1⟩, fun k hk => ?_⟩
        · obtain ⟨g, hg, he⟩ := List.mem_map.1 hn
          exact ih.2 g hg (by rw [he]; exact List.mem_cons_self ..)
        · rcases List.mem_cons.1 hk with rfl | hk
          · exact hcT
          · exact fun hkT => ih.2 k hk (List.mem_cons_of_mem _ hkT)
theorem msgC_rev {x : SchemaD} {A : List ByteArray} {m : MessageD} (h : msgC x A m = 0) : canonM (revM m) = canonM m := by
  unfold msgC at h
  split at h
  · cases h
  · split at h
    · cases h
    · split at h
      · cases h
      · rename_i T hT
        have h1 := (resvP_nodup _ _ _ hT List.nodup_nil).1
        have h2 := (fldsP_nodup _ _ _ h).1
        unfold canonM revM
        simp only
        rw [sortBy_reverse _ _ h2, sortBy_reverse id _ (by simpa using h1)]
theorem msgsP_rev {x : SchemaD} : ∀ (l : List MessageD) (A : List ByteArray), (msgsP x l A).1 = 0 → (l.map revM).map canonM = l.map canonM
  | [], _, _ => rfl
  | a :: r, A, h => by
    simp only [msgsP] at h
    split at h
    · rename_i h1; exact absurd h h1
    · rename_i h1
      rw [List.map_cons, List.map_cons, List.map_cons, msgC_rev (by simpa using h1), msgsP_rev r _ h]
theorem enumC_rev {A : List ByteArray} {m : EnumD} (h : enumC A m = 0) : canonE (revE m) = canonE m := by
  unfold enumC at h
  split at h
  · cases h
  · split at h
    · cases h
    · split at h
      · cases h
      · have h2 := (valsP_nodup _ _ _ h).1
        unfold canonE revE
        simp only
        rw [sortBy_reverse _ _ h2]
theorem enumsP_rev : ∀ (l : List EnumD) (A : List ByteArray), (enumsP l A).1 = 0 → (l.map revE).map canonE = l.map canonE
  | [], _, _ => rfl
  | a :: r, A, h => by
    simp only [enumsP] at h
    split at h
    · rename_i h1; exact absurd h h1
    · rename_i h1
      rw [List.map_cons, List.map_cons, List.map_cons, enumC_rev (by simpa using h1), enumsP_rev r _ h]
theorem canon_rev {x : SchemaD} (h : checkP x = 0) : canonP (revS x) = canonP x := by
  unfold checkP at h
  split at h
  · cases h
  · split at h
    · cases h
    · split at h
      · cases h
      · split at h
        · rename_i h1; exact absurd h h1
        · rename_i h1
          split at h
          · rename_i h2; exact absurd h h2
          · rename_i h2
            unfold canonP revS
            simp only
            rw [msgsP_rev _ _ (by simpa using h1), enumsP_rev _ _ (by simpa using h2)]
theorem print_rev {x : SchemaD} (h : checkP x = 0) : printP (revS x) = printP x := by
  unfold printP
  rw [canon_rev h]
theorem rev_modest {x : SchemaD} (h : x.Modest) : (revS x).Modest := by
  refine ⟨by simpa [revS] using h.messages, by simpa [revS] using h.enums, h.methods, fun m hm => ?_, fun m hm => ?_⟩
  · obtain ⟨m0, h0, rfl⟩ := List.mem_map.1 hm
    have := h.fields m0 h0
    simpa [revM] using this
  · obtain ⟨m0, h0, rfl⟩ := List.mem_map.1 hm
    have := h.values m0 h0
    simpa [revE] using this
theorem rev_fit {x : SchemaD} (h : x.Fit) : (revS x).Fit := by
  refine ⟨h.name, fun m hm => ?_, fun m hm => ?_, h.methods⟩
  · obtain ⟨m0, h0, rfl⟩ := List.mem_map.1 hm
    have hf := h.messages m0 h0
    exact ⟨hf.name, fun f hf0 => hf.fields f (List.mem_reverse.1 hf0), fun n hn => hf.reserved n (List.mem_reverse.1 hn)⟩
  · obtain ⟨m0, h0, rfl⟩ := List.mem_map.1 hm
    have hf := h.enums m0 h0
    exact ⟨hf.name, fun f hf0 => hf.values f (List.mem_reverse.1 hf0)⟩

/-! ### of few parts: a text that is not long -/
structure SchemaD.Brief (x : SchemaD) : Prop where
  name : x.name.size ≤ 3000
  messages : x.messages.length ≤ 14
  enums : x.enums.length ≤ 10
  methods : x.methods.length ≤ 10
  msg : ∀ m ∈ x.messages, m.name.size ≤ 3000 ∧ m.fields.length ≤ 20 ∧ m.reserved.length ≤ 40 ∧ ∀ f ∈ m.fields, f.name.size ≤ 200 ∧ f.tname.size ≤ 200
  en : ∀ e ∈ x.enums, e.name.size ≤ 200 ∧ e.values.length ≤ 24 ∧ ∀ v ∈ e.values, v.name.size ≤ 200
  met : ∀ c ∈ x.methods, c.name.size ≤ 200 ∧ c.inp.size ≤ 200 ∧ c.outp.size ≤ 200
theorem nameSum_le : ∀ (l : List MessageD) (m : MessageD), m ∈ l → m.name.size ≤ nameSum l
  | a :: r, m, h => by
    unfold nameSum
    rw [List.map_cons, List.sum_cons]
    rcases List.mem_cons.1 h with rfl | h
    · omega
    · have := nameSum_le r m h
      unfold nameSum at this
      omega
theorem few_brief {x : SchemaD} (h : fewB x = true) : x.Brief := by
  unfold fewB fewFrom1 fewFrom2 fewFrom3 fewEnd at h
  simp only [List.drop_zero, Bool.and_eq_true, decide_eq_true_eq, List.all_eq_true] at h
  obtain ⟨h1, h2, h3, h4, h5, h6, h7⟩ := h
  rw [List.take_of_length_le (by omega)] at h1 h2 h3 h4
  refine ⟨by omega, h5, h6, h7, fun m hm => ?_, fun e he => ?_, fun c hc => ?_⟩
  · have := h1 m hm
    simp only [fewM, Bool.and_eq_true, decide_eq_true_eq, List.all_eq_true, fewF] at this
    exact ⟨by have := nameSum_le _ m hm; omega, this.1, this.2.1, this.2.2⟩
  · have := h2 e he
    simp only [fewE, Bool.and_eq_true, decide_eq_true_eq, List.all_eq_true, fewV] at this
    exact this
  · have := h3 c hc
    simp only [fewC, Bool.and_eq_true, decide_eq_true_eq] at this
    exact this
theorem SchemaD.Brief.mild {x : SchemaD} (h : x.Brief) : x.Mild :=
  ⟨by have := h.messages; omega, by have := h.enums; omega, by have := h.methods; omega, fun m hm => ⟨(h.msg m hm).2.1, by have := (h.msg m hm).2.2.1; omega⟩, fun e he => (h.en e he).2.1⟩
theorem canon_brief {x : SchemaD} (h : x.Brief) : (canonP x).Brief := by
  refine ⟨h.name, by simpa [canonP] using h.messages, by simpa [canonP] using h.enums, h.methods, fun m hm => ?_, fun m hm => ?_, h.met⟩
  · obtain ⟨m0, h0, rfl⟩ := List.mem_map.1 hm
    have := h.msg m0 h0
    refine ⟨this.1, by simpa [canonM, sortBy_length] using this.2.1, by simpa [canonM, sortBy_length] using this.2.2.1, fun f hf => this.2.2.2 f ((sortBy_mem _ _ _).1 hf)⟩
  · obtain ⟨m0, h0, rfl⟩ := List.mem_map.1 hm
    have := h.en m0 h0
    exact ⟨this.1, by simpa [canonE, sortBy_length] using this.2.1, fun f hf => this.2.2 f ((sortBy_mem _ _ _).1 hf)⟩
theorem flatMap_le {α β : Type} (f : α → List β) (c : Nat) : ∀ (l : List α), (∀ a ∈ l, (f a).length ≤ c) → (l.flatMap f).length ≤ l.length * c
  | [], _ => by simp
  | a :: r, h => by
    have ih := flatMap_le f c r (fun b hb => h b (List.mem_cons_of_mem _ hb))
    have h1 := h a (List.mem_cons_self ..)
    rw [List.flatMap_cons, List.length_append, List.length_cons, Nat.add_mul]
    omega
theorem itoaB_le {n : Int} (h : i64B n) : (itoaB n).data.toList.length ≤ 21 := by
  have := Lib.itoa_length_le n h.1 h.2
  simpa [itoaB] using this
theorem labelP_le (n : Int) : (labelP n).data.toList.length ≤ 10 := by
  unfold labelP
  split
  · decide
  · split <;> decide
theorem size_list (s : ByteArray) : s.data.toList.length = s.size := by simp
theorem kindP_le (k : Int) {s : ByteArray} (h : s.size ≤ 200) : (kindP k s).data.toList.length ≤ 200 := by
  unfold kindP
  split
  · decide
  · split
    · decide
    · split
      · decide
      · split
        · decide
        · split
          · decide
          · rw [size_list]; exact h
theorem joinTail_le (sep : List UInt8) (c : Nat) : ∀ (l : List (List UInt8)), (∀ a ∈ l, a.length ≤ c) → (Lib.joinTail sep l).length ≤ l.length * (sep.length + c)
  | [], _ => by simp [Lib.joinTail]
  | a :: r, h => by
    have ih := joinTail_le sep c r (fun b hb => h b (List.mem_cons_of_mem _ hb))
    have h1 := h a (List.mem_cons_self ..)
    unfold Lib.joinTail at ih ⊢
    rw [List.map_cons, List.flatten_cons, List.length_append, List.length_append, List.length_cons, Nat.add_mul]
    omega
theorem joinB_le {l : List Int} (h : ∀ n ∈ l, i64B n) (hl : l.length ≤ 40) : (joinB l).data.toList.length ≤ 1000 := by
  show (Lib.join ((l.map itoaB).map (·.data.toList)) w_sep.data.toList).length ≤ 1000
  cases l with
  | nil => simp [Lib.join_nil]
  | cons a r =>
    rw [List.map_cons, List.map_cons, Lib.join_cons, List.length_append]
    have h1 := itoaB_le (h a (List.mem_cons_self ..))
    have h2 := joinTail_le w_sep.data.toList 21 ((r.map itoaB).map (·.data.toList)) (by
      intro b hb
      obtain ⟨c, hc, rfl⟩ := List.mem_map.1 hb
      obtain ⟨n, hn, rfl⟩ := List.mem_map.1 hc
      exact itoaB_le (h n (List.mem_cons_of_mem _ hn)))
    rw [List.length_map, List.length_map] at h2
    have h3 : w_sep.data.toList.length = 2 := rfl
    rw [h3] at h2
    simp only [List.length_cons] at hl
    omega
theorem textL_le {x : SchemaD} (h : x.Brief) (hf : x.Fit) : (textL x).length ≤ 1000000 := by
  have k1 : ∀ f ∈ x.messages.flatMap (·.fields), (fieldL f).length ≤ 439 := by
    intro f hfm
    obtain ⟨m, hm, hfm⟩ := List.mem_flatMap.1 hfm
    have hb := (h.msg m hm).2.2.2 f hfm
    have hfit := (hf.messages m hm).fields f hfm
    have e1 := labelP_le f.label
    have e2 := kindP_le f.kind hb.2
    have e3 := itoaB_le hfit.tag
    have e4 := size_list f.name
    simp only [fieldL, lineB, wordsB, List.flatMap_cons, List.flatMap_nil, List.length_append, List.length_cons, List.length_nil]
    have c1 : w_two.data.toList.length = 2 := rfl
    have c2 : w_one.data.toList.length = 1 := rfl
    have c3 : w_is.data.toList.length = 3 := rfl
    have c4 : w_semi.data.toList.length = 1 := rfl
    omega
  have k2 : ∀ m ∈ x.messages, (msgL m).length ≤ 20000 := by
    intro m hm
    have hb := h.msg m hm
    have hfl := flatMap_le fieldL 439 m.fields (fun f hfm => k1 f (List.mem_flatMap.2 ⟨m, hm, hfm⟩))
    have hmul : m.fields.length * 439 ≤ 20 * 439 := Nat.mul_le_mul_right _ hb.2.1
    have hr : (resL m.reserved).length ≤ 1100 := by
      unfold resL
      split
      · simp
      · have hj := joinB_le (hf.messages m hm).reserved hb.2.2.1
        simp only [lineB, wordsB, List.flatMap_cons, List.flatMap_nil, List.length_append, List.length_cons, List.length_nil]
        have c1 : w_resB.data.toList.length = 11 := rfl
        have c4 : w_semi.data.toList.length = 1 := rfl
        omega
    have e4 := size_list m.name
    simp only [msgL, lineB, wordsB, List.flatMap_cons, List.flatMap_nil, List.length_append, List.length_cons, List.length_nil]
    have c1 : w_messageB.data.toList.length = 8 := rfl
    have c2 : w_openB.data.toList.length = 2 := rfl
    have c3 : w_rbrace.data.toList.length = 1 := rfl
    omega
  have k3 : ∀ e ∈ x.enums, (enumL e).length ≤ 20000 := by
    intro e he
    have hb := h.en e he
    have hv : ∀ v ∈ e.values, (valL v).length ≤ 228 := by
      intro v hv
      have h1 := hb.2.2 v hv
      have h2 := itoaB_le ((hf.enums e he).values v hv).2
      have e4 := size_list v.name
      simp only [valL, lineB, wordsB, List.flatMap_cons, List.flatMap_nil, List.length_append, List.length_cons, List.length_nil]
      have c1 : w_two.data.toList.length = 2 := rfl
      have c3 : w_is.data.toList.length = 3 := rfl
      have c4 : w_semi.data.toList.length = 1 := rfl
      omega
    have hfl := flatMap_le valL 228 e.values hv
    have hmul : e.values.length * 228 ≤ 24 * 228 := Nat.mul_le_mul_right _ hb.2.1
    have e4 := size_list e.name
    simp only [enumL, lineB, wordsB, List.flatMap_cons, List.flatMap_nil, List.length_append, List.length_cons, List.length_nil]
    have c1 : w_enumB.data.toList.length = 5 := rfl
    have c2 : w_openB.data.toList.length = 2 := rfl
    have c3 : w_rbrace.data.toList.length = 1 := rfl
    omega
  have k4 : ∀ c ∈ x.methods, (methL c).length ≤ 20000 := by
    intro c hc
    have hb := h.met c hc
    have e1 := size_list c.name
    have e2 := size_list c.inp
    have e3 := size_list c.outp
    simp only [methL, lineB, wordsB, List.flatMap_cons, List.flatMap_nil, List.length_append, List.length_cons, List.length_nil]
    have c1 : w_callB.data.toList.length = 5 := rfl
    have c2 : w_par.data.toList.length = 1 := rfl
    have c3 : w_retB.data.toList.length = 11 := rfl
    have c4 : w_endB.data.toList.length = 2 := rfl
    omega
  have l2 := flatMap_le msgL 20000 x.messages k2
  have l3 := flatMap_le enumL 20000 x.enums k3
  have l4 := flatMap_le methL 20000 x.methods k4
  have m2 : x.messages.length * 20000 ≤ 14 * 20000 := Nat.mul_le_mul_right _ h.messages
  have m3 : x.enums.length * 20000 ≤ 10 * 20000 := Nat.mul_le_mul_right _ h.enums
  have m4 : x.methods.length * 20000 ≤ 10 * 20000 := Nat.mul_le_mul_right _ h.methods
  have hn := h.name
  have e1 := size_list x.name
  simp only [textL, headL, lineB, wordsB, List.flatMap_cons, List.flatMap_nil, List.length_append, List.length_cons, List.length_nil]
  have c1 : w_schemaB.data.toList.length = 7 := rfl
  have c4 : w_semi.data.toList.length = 1 := rfl
  omega
theorem print_le {x : SchemaD} (h : x.Brief) (hf : x.Fit) : (printP x).length ≤ 1000000 := textL_le (canon_brief h) (canon_fit hf)
theorem brief_prints {x : SchemaD} (h : x.Brief) (hf : x.Fit) (hm : x.Modest) : x.Prints := ⟨hm, hf, Nat.le_trans (print_le h hf) (by decide)⟩
theorem rev_prints {x : SchemaD} (h : x.Prints) (hc : checkP x = 0) : (revS x).Prints := ⟨rev_modest h.modest, rev_fit h.fit, by rw [print_rev hc]; exact h.len⟩

end Go.Proofs.YtkpgaccgcdoijaaGreatDoor

namespace Go.Proofs.YtkpgaccgcdoijaaGreatDoor
open Go.RowKit

/-! ### a schema of the call's own, a part of it written anew -/
/-- What is read of message i, and what a write into its rows leaves. -/
structure MsgAt (w : World) (E B : Nat) (l : List MessageD) (cs : List Value) (i : Nat) (m : MessageD) (vf vr : Value) : Prop where
  c0 : cs[i * 3]? = some (.string m.name)
  c1 : cs[i * 3 + 1]? = some vf
  c2 : cs[i * 3 + 2]? = some vr
  f : w.ownsRow B 44 5 vf m.fields.length (fieldsCells m.fields)
  r : w.ownsRow B 3 1 vr m.reserved.length (intsCells m.reserved)
  put : ∀ (w' : World) (F' : List FieldD) (R' : List Int), (∀ k, B ≤ k → k < E → some k ≠ vf.ownBlock → some k ≠ vr.ownBlock → w'.heap[k]? = w.heap[k]?) → w'.ownsRow B 44 5 vf F'.length (fieldsCells F') → w'.ownsRow B 3 1 vr R'.length (intsCells R') →
    MsgRow w' E B (l.set i ⟨m.name, F', R'⟩) cs
theorem own_base {w : World} {B B' n s : Nat} {e : TypeId} {v : Value} {xs : List Value} (h : w.ownsRow B e s v n xs) (hb : ∀ k, v.ownBlock = some k → B' ≤ k) : w.ownsRow B' e s v n xs := by
  refine ⟨h.1, ?_⟩
  rcases h.2 with h1 | ⟨g, cap, cur, h1, h2, hh, h4⟩
  · exact .inl h1
  · exact .inr ⟨g, cap, cur, h1, hb g (by rw [h1]; rfl), hh, h4⟩
theorem MsgRow.at_ {w : World} {E : Nat} : ∀ {B : Nat} {l : List MessageD} {cs : List Value} (i : Nat) (h : i < l.length), MsgRow w E B l cs → ∃ vf vr, MsgAt w E B l cs i l[i] vf vr
  | B, m :: r, _, 0, _, ⟨vf, vr, rest, B', e1, e2, e3, e4, e5, e6, e7⟩ =>
    ⟨vf, vr, by rw [e1]; rfl, by rw [e1]; rfl, by rw [e1]; rfl, e2, e3, fun w' F' R' hk hf hr => ⟨vf, vr, rest, B', e1, hf, hr, e4, e5, e6,
      MsgRow.range (fun k h1 h2 => hk k (Nat.le_trans e6 h1) h2 (fun e => by have := e4 k e.symm; omega) (fun e => by have := e5 k e.symm; omega)) e7⟩⟩
  | B, m :: r, _, i + 1, h, ⟨vf, vr, rest, B', e1, e2, e3, e4, e5, e6, e7⟩ => by
    obtain ⟨uf, ur, c0, c1, c2, hf, hr, put⟩ := MsgRow.at_ i (by simpa using h) e7
    have hE := MsgRow.le e7
    refine ⟨uf, ur, ?_, ?_, ?_, own_mono hf e6, own_mono hr e6, fun w' F' R' hk hf' hr' => ?_⟩
    · rw [e1, show (i + 1) * 3 = i * 3 + 1 + 1 + 1 by omega]; simpa using c0
    · rw [e1, show (i + 1) * 3 + 1 = (i * 3 + 1) + 1 + 1 + 1 by omega]; simpa using c1
    · rw [e1, show (i + 1) * 3 + 2 = (i * 3 + 2) + 1 + 1 + 1 by omega]; simpa using c2
    · have hfb : ∀ k, uf.ownBlock = some k → B' ≤ k := fun k hk => (hf.lt k hk).1
      have hrb : ∀ k, ur.ownBlock = some k → B' ≤ k := fun k hk => (hr.lt k hk).1
      have hne : ∀ k, k < B' → some k ≠ uf.ownBlock ∧ some k ≠ ur.ownBlock := fun k hk => ⟨fun e => by have := hfb k e.symm; omega, fun e => by have := hrb k e.symm; omega⟩
      refine ⟨vf, vr, rest, B', e1, ?_, ?_, e4, e5, e6, put w' F' R' (fun k h1 h2 => hk k (Nat.le_trans e6 h1) h2) (own_base hf' hfb) (own_base hr' hrb)⟩
      · exact own_blk e2 (fun g hg => hk g (e2.lt g hg).1 (Nat.lt_of_lt_of_le (e4 g hg) hE) (hne g (e4 g hg)).1 (hne g (e4 g hg)).2)
      · exact own_blk e3 (fun g hg => hk g (e3.lt g hg).1 (Nat.lt_of_lt_of_le (e5 g hg) hE) (hne g (e5 g hg)).1 (hne g (e5 g hg)).2)
structure EnumAt (w : World) (E B : Nat) (l : List EnumD) (cs : List Value) (i : Nat) (m : EnumD) (vf : Value) : Prop where
  c0 : cs[i * 2]? = some (.string m.name)
  c1 : cs[i * 2 + 1]? = some vf
  f : w.ownsRow B 49 2 vf m.values.length (namedsCells m.values)
  put : ∀ (w' : World) (F' : List NamedD), (∀ k, B ≤ k → k < E → some k ≠ vf.ownBlock → w'.heap[k]? = w.heap[k]?) → w'.ownsRow B 49 2 vf F'.length (namedsCells F') → EnumRow w' E B (l.set i ⟨m.name, F'⟩) cs
theorem EnumRow.at_ {w : World} {E : Nat} : ∀ {B : Nat} {l : List EnumD} {cs : List Value} (i : Nat) (h : i < l.length), EnumRow w E B l cs → ∃ vf, EnumAt w E B l cs i l[i] vf
  | B, m :: r, _, 0, _, ⟨vf, rest, B', e1, e2, e4, e6, e7⟩ =>
    ⟨vf, by rw [e1]; rfl, by rw [e1]; rfl, e2, fun w' F' hk hf => ⟨vf, rest, B', e1, hf, e4, e6, EnumRow.range (fun k h1 h2 => hk k (Nat.le_trans e6 h1) h2 (fun e => by have := e4 k e.symm; omega)) e7⟩⟩
  | B, m :: r, _, i + 1, h, ⟨vf, rest, B', e1, e2, e4, e6, e7⟩ => by
    obtain ⟨uf, c0, c1, hf, put⟩ := EnumRow.at_ i (by simpa using h) e7
    have hE := EnumRow.le e7
    refine ⟨uf, ?_, ?_, own_mono hf e6, fun w' F' hk hf' => ?_⟩
    · rw [e1, show (i + 1) * 2 = i * 2 + 1 + 1 by omega]; simpa using c0
    · rw [e1, show (i + 1) * 2 + 1 = (i * 2 + 1) + 1 + 1 by omega]; simpa using c1
    · have hfb : ∀ k, uf.ownBlock = some k → B' ≤ k := fun k hk => (hf.lt k hk).1
      have hne : ∀ k, k < B' → some k ≠ uf.ownBlock := fun k hk e => by have := hfb k e.symm; omega
      refine ⟨vf, rest, B', e1, ?_, e4, e6, put w' F' (fun k h1 h2 => hk k (Nat.le_trans e6 h1) h2) (own_base hf' hfb)⟩
      exact own_blk e2 (fun g hg => hk g (e2.lt g hg).1 (Nat.lt_of_lt_of_le (e4 g hg) hE) (hne g (e4 g hg)))

/-! ### element j of a row, stored anew, cell by cell -/
theorem set5 (f : FieldD) : ∀ (L : List FieldD) (j : Nat), j < L.length → (((((L.flatMap fieldCells).set (j * 5) (.string f.name)).set (j * 5 + 1) (.int .i64 f.tag)).set (j * 5 + 2) (.int .i64 f.label)).set (j * 5 + 3) (.int .i64 f.kind)).set (j * 5 + 4) (.string f.tname) = (L.set j f).flatMap fieldCells
  | a :: r, 0, _ => by simp [fieldCells]
  | a :: r, j + 1, h => by
    have ih := set5 f r j (by simpa using h)
    have hl : (fieldCells a).length = 5 := rfl
    rw [List.flatMap_cons, List.set_append_right _ _ (by omega), List.set_append_right _ _ (by omega), List.set_append_right _ _ (by omega), List.set_append_right _ _ (by omega), List.set_append_right _ _ (by omega), hl,
      show (j + 1) * 5 - 5 = j * 5 by omega, show (j + 1) * 5 + 1 - 5 = j * 5 + 1 by omega, show (j + 1) * 5 + 2 - 5 = j * 5 + 2 by omega, show (j + 1) * 5 + 3 - 5 = j * 5 + 3 by omega, show (j + 1) * 5 + 4 - 5 = j * 5 + 4 by omega, ih, List.set_cons_succ, List.flatMap_cons]
theorem set2v (f : NamedD) : ∀ (L : List NamedD) (j : Nat), j < L.length → ((L.flatMap namedCells).set (j * 2) (.string f.name)).set (j * 2 + 1) (.int .i64 f.n) = (L.set j f).flatMap namedCells
  | a :: r, 0, _ => by simp [namedCells]
  | a :: r, j + 1, h => by
    have ih := set2v f r j (by simpa using h)
    have hl : (namedCells a).length = 2 := rfl
    rw [List.flatMap_cons, List.set_append_right _ _ (by omega), List.set_append_right _ _ (by omega), hl, show (j + 1) * 2 - 2 = j * 2 by omega, show (j + 1) * 2 + 1 - 2 = j * 2 + 1 by omega, ih, List.set_cons_succ, List.flatMap_cons]

/-! ### turning a list about, element by element -/
def turnL {α : Type} (l : List α) (k : Nat) : List α := l.take (l.length - k) ++ (l.take k).reverse
theorem turnL_zero {α : Type} (l : List α) : turnL l 0 = l := by simp [turnL]
theorem turnL_full {α : Type} (l : List α) : turnL l l.length = l.reverse := by simp [turnL]
theorem turnL_length {α : Type} (l : List α) (k : Nat) (h : k ≤ l.length) : (turnL l k).length = l.length := by
  simp [turnL]; omega
theorem turnL_step {α : Type} (l : List α) (k : Nat) (h : k < l.length) : (turnL l k).set (l.length - 1 - k) l[k] = turnL l (k + 1) := by
  unfold turnL
  have h1 : (l.take (l.length - k)).length = l.length - k := by rw [List.length_take]; omega
  rw [List.set_append_left _ _ (by rw [h1]; omega), List.take_succ_eq_append_getElem h, List.reverse_append, List.reverse_singleton]
  have h2 : l.length - k = (l.length - (k + 1)) + 1 := by omega
  have h3 : l.length - 1 - k = l.length - (k + 1) := by omega
  have hlt : l.length - (k + 1) < l.length := by omega
  have h4 : l.take (l.length - (k + 1) + 1) = l.take (l.length - (k + 1)) ++ [l[l.length - (k + 1)]] := List.take_succ_eq_append_getElem hlt
  have h5 : (l.take (l.length - (k + 1))).length = l.length - (k + 1) := by rw [List.length_take]; omega
  rw [h2, h3, h4, List.set_append_right _ _ (by rw [h5]; exact Nat.le_refl _), h5, Nat.sub_self]
  simp

end Go.Proofs.YtkpgaccgcdoijaaGreatDoor

namespace Go.Proofs.YtkpgaccgcdoijaaGreatDoor
open Go.RowKit

/-! ### PrintOrder: the copy t while it is turned about -/
structure OrdS (w : World) (cs : Array Value) (bt E : Nat) (x : SchemaD) (ms : List MessageD) (es : List EnumD) (v1 v2 v3 : Value) (W : World) : Prop where
  below : Below w.heap.size w W
  s : W.heap[w.heap.size]? = some (.cells cs 26 (0, 0))
  t : W.heap[bt]? = some (.cells #[.string x.name, v1, v2, v3] 26 (0, 0))
  lt : w.heap.size < bt
  own : OwnSchema W (w.heap.size + 1) E { x with messages := ms, enums := es } v1 v2 v3
  size : E ≤ W.heap.size
theorem OrdS.row {w : World} {cs : Array Value} {bt E : Nat} {x : SchemaD} {ms ms' : List MessageD} {es es' : List EnumD} {v1 v2 v3 : Value} {W W' : World} {o : Option Nat} (h : OrdS w cs bt E x ms es v1 v2 v3 W) (hg : W.grownBy W' o) (ho : ∀ g, o = some g → w.heap.size + 1 ≤ g ∧ g ≠ bt)
    (hown : OwnSchema W' (w.heap.size + 1) E { x with messages := ms', enums := es' } v1 v2 v3) : OrdS w cs bt E x ms' es' v1 v2 v3 W' := by
  have hne1 : some w.heap.size ≠ o := fun e => by have := (ho _ e.symm).1; omega
  have hne2 : some bt ≠ o := fun e => (ho _ e.symm).2 rfl
  refine ⟨?_, (hg.block _ (blk_lt h.s) hne1).trans h.s, (hg.block _ (blk_lt h.t) hne2).trans h.t, h.lt, hown, Nat.le_trans h.size hg.size⟩
  cases o with
  | some g => exact h.below.grown hg h.below.size (fun k hk => by cases hk; have := (ho g rfl).1; omega)
  | none => exact h.below.grown hg h.below.size (fun k hk => by cases hk)
theorem own_other {w w' : World} {b b' : Nat} {e e' : TypeId} {s s' n n' : Nat} {v v' : Value} {xs xs' : List Value} (h : w.ownsRow b e s v n xs) (h' : w.ownsRow b' e' s' v' n' xs') (hne : e ≠ e') (hg : w.grownBy w' v'.ownBlock) : w'.ownsRow b e s v n xs := by
  refine own_blk h (fun g hk => hg.block g (h.lt g hk).2 (fun e => ?_))
  rcases own_type_ne h h' hne with h0 | h0
  · rw [h0] at hk; cases hk
  · exact h0 (hk.trans e)
theorem OrdS.msg {w : World} {cs : Array Value} {bt E : Nat} {x : SchemaD} {A r : List MessageD} {m : MessageD} {es : List EnumD} {v1 v2 v3 : Value} {W : World} (h : OrdS w cs bt E x (A ++ m :: r) es v1 v2 v3 W) :
    ∃ g c vf vr, v1 = .slice (some ⟨g, 0, none⟩) (A ++ m :: r).length c ∧ W.cell? ⟨g, A.length * 3 + 1, none⟩ = some vf ∧ W.cell? ⟨g, A.length * 3 + 2, none⟩ = some vr ∧
      W.ownsRow (w.heap.size + 1) 44 5 vf m.fields.length (fieldsCells m.fields) ∧ W.ownsRow (w.heap.size + 1) 3 1 vr m.reserved.length (intsCells m.reserved) ∧
      (∀ W' F', W.grownBy W' vf.ownBlock → W'.ownsRow (w.heap.size + 1) 44 5 vf F'.length (fieldsCells F') → OrdS w cs bt E x (A ++ ⟨m.name, F', m.reserved⟩ :: r) es v1 v2 v3 W') ∧
      (∀ W' R', W.grownBy W' vr.ownBlock → W'.ownsRow (w.heap.size + 1) 3 1 vr R'.length (intsCells R') → OrdS w cs bt E x (A ++ ⟨m.name, m.fields, R'⟩ :: r) es v1 v2 v3 W') := by
  obtain ⟨mcs, ecs, h1, h2, h3, h4, h5⟩ := h.own
  have hi : A.length < (A ++ m :: r).length := by simp
  obtain ⟨vf, vr, c0, c1, c2, hf, hr, put⟩ := MsgRow.at_ A.length hi h4
  have hm : (A ++ m :: r)[A.length] = m := by simp
  have hset : ∀ m', (A ++ m :: r).set A.length m' = A ++ m' :: r := fun m' => by simp
  rw [hm] at hf hr
  have put' : ∀ (w' : World) (F' : List FieldD) (R' : List Int), (∀ k, w.heap.size + 1 ≤ k → k < E → some k ≠ vf.ownBlock → some k ≠ vr.ownBlock → w'.heap[k]? = W.heap[k]?) → w'.ownsRow (w.heap.size + 1) 44 5 vf F'.length (fieldsCells F') → w'.ownsRow (w.heap.size + 1) 3 1 vr R'.length (intsCells R') → MsgRow w' E (w.heap.size + 1) (A ++ ⟨m.name, F', R'⟩ :: r) mcs := by
    intro w' F' R' a b c
    have := put w' F' R' a b c
    rw [hm, hset] at this
    exact this
  have hlen : ∀ m', (A ++ m' :: r).length = (A ++ m :: r).length := fun m' => by simp
  obtain ⟨g, c, hv, hcell, _⟩ := own_form h1 (by simp only; omega)
  have hE := MsgRow.le h4
  have hbn : ∀ {e : TypeId} {s n : Nat} {v : Value} {xs : List Value}, W.ownsRow (w.heap.size + 1) e s v n xs → e ≠ 26 → ∀ k, v.ownBlock = some k → w.heap.size + 1 ≤ k ∧ k ≠ bt := by
    intro e s n v xs ho hT k hk
    exact ⟨(ho.lt k hk).1, fun e' => own_ne_blk ho h.t (fun h' => hT h'.symm) (by rw [hk, e'])⟩
  refine ⟨g, c, vf, vr, hv, ?_, ?_, hf, hr, fun W' F' hg ho => ?_, fun W' R' hg ho => ?_⟩
  · rw [hcell _ (by simp only; omega)]; exact c1
  · rw [hcell _ (by simp only; omega)]; exact c2
  · refine h.row hg (hbn hf (by decide)) ⟨mcs, ecs, ?_, own_other h2 hf (by decide) hg, own_other h3 hf (by decide) hg, ?_, ?_⟩
    · have := own_other h1 hf (by decide) hg
      simp only [hlen ⟨m.name, F', m.reserved⟩]
      exact this
    · exact put' W' F' m.reserved (fun k a b e1 _ => hg.block k (Nat.lt_of_lt_of_le b h.size) e1) ho (own_other hr hf (by decide) hg)
    · exact h5.kept (TyKept.row hf hg (by decide))
  · refine h.row hg (hbn hr (by decide)) ⟨mcs, ecs, ?_, own_other h2 hr (by decide) hg, own_other h3 hr (by decide) hg, ?_, ?_⟩
    · have := own_other h1 hr (by decide) hg
      simp only [hlen ⟨m.name, m.fields, R'⟩]
      exact this
    · exact put' W' m.fields R' (fun k a b _ e2 => hg.block k (Nat.lt_of_lt_of_le b h.size) e2) (own_other hf hr (by decide) hg) ho
    · exact h5.kept (TyKept.row hr hg (by decide))
theorem OrdS.enm {w : World} {cs : Array Value} {bt E : Nat} {x : SchemaD} {A r : List EnumD} {m : EnumD} {ms : List MessageD} {v1 v2 v3 : Value} {W : World} (h : OrdS w cs bt E x ms (A ++ m :: r) v1 v2 v3 W) :
    ∃ g c vf, v2 = .slice (some ⟨g, 0, none⟩) (A ++ m :: r).length c ∧ W.cell? ⟨g, A.length * 2 + 1, none⟩ = some vf ∧ W.ownsRow (w.heap.size + 1) 49 2 vf m.values.length (namedsCells m.values) ∧
      (∀ W' F', W.grownBy W' vf.ownBlock → W'.ownsRow (w.heap.size + 1) 49 2 vf F'.length (namedsCells F') → OrdS w cs bt E x ms (A ++ ⟨m.name, F'⟩ :: r) v1 v2 v3 W') := by
  obtain ⟨mcs, ecs, h1, h2, h3, h4, h5⟩ := h.own
  have hi : A.length < (A ++ m :: r).length := by simp
  obtain ⟨vf, c0, c1, hf, put⟩ := EnumRow.at_ A.length hi h5
  have hm : (A ++ m :: r)[A.length] = m := by simp
  have hset : ∀ m', (A ++ m :: r).set A.length m' = A ++ m' :: r := fun m' => by simp
  rw [hm] at hf
  have put' : ∀ (w' : World) (F' : List NamedD), (∀ k, w.heap.size + 1 ≤ k → k < E → some k ≠ vf.ownBlock → w'.heap[k]? = W.heap[k]?) → w'.ownsRow (w.heap.size + 1) 49 2 vf F'.length (namedsCells F') → EnumRow w' E (w.heap.size + 1) (A ++ ⟨m.name, F'⟩ :: r) ecs := by
    intro w' F' a b
    have := put w' F' a b
    rw [hm, hset] at this
    exact this
  have hlen : ∀ m', (A ++ m' :: r).length = (A ++ m :: r).length := fun m' => by simp
  obtain ⟨g, c, hv, hcell, _⟩ := own_form h2 (by simp only; omega)
  refine ⟨g, c, vf, hv, ?_, hf, fun W' F' hg ho => ?_⟩
  · rw [hcell _ (by simp only; omega)]; exact c1
  · refine h.row hg (fun k hk => ⟨(hf.lt k hk).1, fun e' => own_ne_blk hf h.t (by decide) (by rw [hk, e'])⟩) ⟨mcs, ecs, own_other h1 hf (by decide) hg, ?_, own_other h3 hf (by decide) hg, ?_, ?_⟩
    · have := own_other h2 hf (by decide) hg
      simp only [hlen ⟨m.name, F'⟩]
      exact this
    · exact h4.kept (TyKept.row hf hg (by decide))
    · exact put' W' F' (fun k a b e1 => hg.block k (Nat.lt_of_lt_of_le b h.size) e1) ho

end Go.Proofs.YtkpgaccgcdoijaaGreatDoor

namespace Go.Proofs.YtkpgaccgcdoijaaGreatDoor
open Go.RowKit

/-! ### PrintOrder's last comparison -/
def EndS (w : World) (cs : Array Value) (bt E : Nat) (x : SchemaD) (v1 v2 v3 : Value) (W : World) : Prop := OrdS w cs bt E x (x.messages.map revM) (x.enums.map revE) v1 v2 v3 W
def CopyR (x : SchemaD) (um ue uc : Value) (W : World) : Prop := SchemaRd W (fun k => k < W.heap.size) x um ue uc
def Cells44 (b c : Nat) (a0 a1 a2 a3 b0 b1 b2 b3 : Value) (W : World) : Prop :=
  W.cell? ⟨b, 0, none⟩ = some a0 ∧ W.cell? ⟨b, 1, none⟩ = some a1 ∧ W.cell? ⟨b, 2, none⟩ = some a2 ∧ W.cell? ⟨b, 3, none⟩ = some a3 ∧ W.cell? ⟨c, 0, none⟩ = some b0 ∧ W.cell? ⟨c, 1, none⟩ = some b1 ∧ W.cell? ⟨c, 2, none⟩ = some b2 ∧ W.cell? ⟨c, 3, none⟩ = some b3
/-- What the region leans on. -/
structure EndK (w : World) (x : SchemaD) (vm ve vc : Value) : Prop where
  s : SchemaRd w (fun k => k < w.heap.size) x vm ve vc
  tabs : Tabs w
  prints : x.Prints
  mild : x.Mild
  ok : checkP x = 0
section
variable {w : World} {bt E : Nat} {x : SchemaD} {vm ve vc v1 v2 v3 um ue uc : Value} {W W' : World}
theorem EndS.under {cs : Array Value} (h : EndS w cs bt E x v1 v2 v3 W) (hb : Below W.heap.size W W') : EndS w cs bt E x v1 v2 v3 W' :=
  ⟨h.below.trans (hb.mono h.below.size), (hb.block _ (blk_lt h.s)).trans h.s, (hb.block _ (blk_lt h.t)).trans h.t, h.lt, h.own.kept (TyKept.below hb), Nat.le_trans h.size hb.size⟩
theorem EndS.cells (h : EndS w #[.string x.name, vm, ve, vc] bt E x v1 v2 v3 W) : Cells44 w.heap.size bt (.string x.name) vm ve vc (.string x.name) v1 v2 v3 W :=
  ⟨blk_cell h.s 0, blk_cell h.s 1, blk_cell h.s 2, blk_cell h.s 3, blk_cell h.t 0, blk_cell h.t 1, blk_cell h.t 2, blk_cell h.t 3⟩
theorem EndS.src {cs : Array Value} (h : EndS w cs bt E x v1 v2 v3 W) (hk : EndK w x vm ve vc) : SchemaRd W (fun k => k < W.heap.size) x vm ve vc :=
  hk.s.kept h.below.block (fun _ hj => Nat.lt_of_lt_of_le hj h.below.size)
theorem EndS.turned {cs : Array Value} (h : EndS w cs bt E x v1 v2 v3 W) : SchemaRd W (fun k => k < W.heap.size) (revS x) v1 v2 v3 := SchemaRd.own (show OwnSchema W (w.heap.size + 1) E (revS x) v1 v2 v3 from h.own)
theorem end_turned (hk : EndK w x vm ve vc) (h : EndS w #[.string x.name, vm, ve, vc] bt E x v1 v2 v3 W) :
    Calls Tryz.prog 15 #[.agg #[.string x.name, v1, v2, v3]] W fun e w' => e = .returned (.string ⟨(printP x).toArray⟩) ∧ Cells44 w.heap.size bt (.string x.name) vm ve vc (.string x.name) v1 v2 v3 w' ∧ EndS w #[.string x.name, vm, ve, vc] bt E x v1 v2 v3 w' ∧ Below W.heap.size W w' := by
  have hr := rev_prints hk.prints hk.ok
  refine (print_calls (revS x) v1 v2 v3 W h.turned hr.modest hr.fit (hk.tabs.below h.below) hr.len).mono ?_
  rintro e w' ⟨h1, h2⟩
  rw [print_rev hk.ok] at h1
  exact ⟨h1, EndS.cells (EndS.under h h2), EndS.under h h2, h2⟩
theorem end_turned2 (hk : EndK w x vm ve vc) (h : EndS w #[.string x.name, vm, ve, vc] bt E x v1 v2 v3 W) (hc : CopyR x um ue uc W) :
    Calls Tryz.prog 15 #[.agg #[.string x.name, v1, v2, v3]] W fun e w' => e = .returned (.string ⟨(printP x).toArray⟩) ∧ Cells44 w.heap.size bt (.string x.name) vm ve vc (.string x.name) v1 v2 v3 w' ∧ EndS w #[.string x.name, vm, ve, vc] bt E x v1 v2 v3 w' ∧ CopyR x um ue uc w' :=
  (end_turned hk h).mono fun _ _ ⟨h1, h2, h3, h4⟩ => ⟨h1, h2, h3, SchemaRd.kept hc h4.block (fun _ hj => Nat.lt_of_lt_of_le hj h4.size)⟩
theorem end_copy (hk : EndK w x vm ve vc) (h : EndS w #[.string x.name, vm, ve, vc] bt E x v1 v2 v3 W) :
    Calls Tryz.prog 11 #[.agg #[.string x.name, vm, ve, vc]] W fun e w' => ∃ um ue uc, e = .returned (.agg #[.string x.name, um, ue, uc]) ∧ Cells44 w.heap.size bt (.string x.name) vm ve vc (.string x.name) v1 v2 v3 w' ∧ EndS w #[.string x.name, vm, ve, vc] bt E x v1 v2 v3 w' ∧ CopyR x um ue uc w' :=
  (schema_copied x vm ve vc W (h.src hk) hk.mild).mono fun _ _ ⟨um, ue, uc, h1, h2, h3⟩ => ⟨um, ue, uc, h1, EndS.cells (EndS.under h h3), EndS.under h h3, SchemaRd.own h2⟩
theorem end_copied (hk : EndK w x vm ve vc) (h : EndS w #[.string x.name, vm, ve, vc] bt E x v1 v2 v3 W) (hc : CopyR x um ue uc W) :
    Calls Tryz.prog 15 #[.agg #[.string x.name, um, ue, uc]] W fun e w' => e = .returned (.string ⟨(printP x).toArray⟩) ∧ Cells44 w.heap.size bt (.string x.name) vm ve vc (.string x.name) v1 v2 v3 w' ∧ EndS w #[.string x.name, vm, ve, vc] bt E x v1 v2 v3 w' :=
  (print_calls x um ue uc W hc hk.prints.modest hk.prints.fit (hk.tabs.below h.below) hk.prints.len).mono fun _ _ ⟨h1, h2⟩ => ⟨h1, EndS.cells (EndS.under h h2), EndS.under h h2⟩
theorem end_same (hk : EndK w x vm ve vc) (h : EndS w #[.string x.name, vm, ve, vc] bt E x v1 v2 v3 W) :
    Calls Tryz.prog 17 #[.agg #[.string x.name, v1, v2, v3], .agg #[.string x.name, vm, ve, vc]] W fun e w' => e = .returned (.bool true) ∧ Cells44 w.heap.size bt (.string x.name) vm ve vc (.string x.name) v1 v2 v3 w' ∧ EndS w #[.string x.name, vm, ve, vc] bt E x v1 v2 v3 w' := by
  refine (same_calls (revS x) x v1 v2 v3 vm ve vc W h.turned (h.src hk) (rev_prints hk.prints hk.ok) hk.prints (hk.tabs.below h.below)).mono ?_
  rintro e w' ⟨h1, h2⟩
  have : sameP (revS x) x = true := by unfold sameP; rw [print_rev hk.ok]; simp
  rw [this] at h1
  exact ⟨h1, EndS.cells (EndS.under h h2), EndS.under h h2⟩
theorem end_awake (hk : EndK w x vm ve vc) (h : EndS w #[.string x.name, vm, ve, vc] bt E x v1 v2 v3 W) :
    Calls Tryz.prog 10 #[] W fun e w' => e = .returned (.bool true) ∧ Cells44 w.heap.size bt (.string x.name) vm ve vc (.string x.name) v1 v2 v3 w' ∧ EndS w #[.string x.name, vm, ve, vc] bt E x v1 v2 v3 w' :=
  (awake_calls W (hk.tabs.below h.below)).mono fun _ _ ⟨h1, h2⟩ => ⟨h1, EndS.cells (EndS.under h h2), EndS.under h h2⟩
end

end Go.Proofs.YtkpgaccgcdoijaaGreatDoor

/- Eng09: an engine for the program's code, and walks of its functions (AF AG AH AI AJ AK AL AM). -/
import Derived.Test.YtlcepambcoobgaaGreatDoorEng08
import Derived.Below
/- The check of a state seen another way is sound: rows, whole states. -/
namespace Go.Eng
section
variable {fz : Id → Bool} {ρ : List (Id × Src)} {w : World} {μ : Id → Option Loc} {F : Nat → Prop} {H : HH}
theorem leLL_get : ∀ {l m : List (List AV)}, leLL fz ρ H l m → l.length = m.length ∧ ∀ i (h : i < l.length) (h' : i < m.length), leK.leL fz ρ H l[i] m[i]
  | [], [], _ => ⟨rfl, fun i h => by simp at h⟩
  | [], _ :: _, h => h.elim
  | _ :: _, [], h => by simp only [leLL] at h
  | a :: l, b :: m, h => by
    simp only [leLL] at h
    obtain ⟨h1, h2⟩ := leLL_get h.2
    refine ⟨by simp [h1], fun i hi hi' => ?_⟩
    cases i with
    | zero => exact h.1
    | succ i => exact h2 i (by simpa using hi) (by simpa using hi')
theorem rowLe_ok (hH : HRep w μ F H) {each : Bool} {a b : Row} {l : Loc} (h : rowLe fz ρ H each a b) (hr : RowRep w μ F l a) : RowRep w (muOf ρ μ) (frOf fz μ F H) l b := by
  have hF : ∀ b, F b → frOf fz μ F H b := fun _ h => .inl h
  unfold rowLe at h
  split at h
  · rename_i sz bs es
    split at h
    · rename_i sz' bs' es'
      obtain ⟨⟨rfl, rfl⟩, h⟩ := h
      obtain ⟨a1, a2, a3, a4, a5⟩ := hr
      have key : es.length = es'.length ∧ ∀ i (hi : i < es.length) (hi' : i < es'.length), es[i].length = es'[i].length ∧ ∀ j (hj : j < es[i].length) (hj' : j < es'[i].length) v, Rep w μ F es[i][j] v → Rep w (muOf ρ μ) (frOf fz μ F H) es'[i][j] v := by
        split at h
        · obtain ⟨k1, k2⟩ := leLL_get h
          refine ⟨k1, fun i hi hi' => ?_⟩
          obtain ⟨k3, k4⟩ := leL_get (k2 i hi hi')
          exact ⟨k3, fun j hj hj' v hv => leK_ok hH hv (k4 j hj hj')⟩
        · obtain ⟨rfl, h⟩ := h
          refine ⟨rfl, fun i hi hi' => ⟨rfl, fun j hj hj' v hv => ?_⟩⟩
          exact .frz ((idf_frz hv (idfL_get (h _ (List.getElem_mem hi)) j hj)).mono (fun _ _ => rfl) hF)
      refine ⟨a1, a2, by omega, by rw [← key.1]; exact a4, ?_⟩
      cases hb : l.b with
      | none =>
        rw [hb] at a5
        obtain ⟨rfl, hc⟩ := a5
        exact ⟨List.eq_nil_of_length_eq_zero key.1.symm, hc⟩
      | some b =>
        rw [hb] at a5
        obtain ⟨c, e, lo, hi, g1, g2, g3, g4⟩ := a5.h
        refine ⟨c, e, lo, hi, g1, g2, g3, fun i hi => ?_⟩
        have hi0 : i < es.length := by omega
        obtain ⟨k1, k2⟩ := key.2 i hi0 hi
        refine ⟨k1 ▸ (g4 i hi0).1, fun j hj => ?_⟩
        obtain ⟨v, v1, v2, v3⟩ := (g4 i hi0).2 j (by omega)
        exact ⟨v, v1, v2, k2 j (by omega) hj v v3⟩
    · trivial
    · exact h.elim
  · rename_i kv
    split at h
    · rename_i kv'
      obtain ⟨rfl, h⟩ := h
      obtain ⟨b, es, ck, g1, g2, g3, g4, g5⟩ := hr
      refine ⟨b, es, ck, g1, g2, g3, fun i hi hi' => ?_, g5⟩
      obtain ⟨k1, k2, k3⟩ := g4 i hi hi'
      have := h _ (List.getElem_mem hi)
      exact ⟨.frz ((idf_frz k1 this.1).mono (fun _ _ => rfl) hF), .frz ((idf_frz k2 this.2).mono (fun _ _ => rfl) hF), k3⟩
    · trivial
    · exact h.elim
  · split at h
    · obtain ⟨rfl, rfl⟩ := h
      exact hr
    · trivial
    · exact h.elim
  · split at h
    · trivial
    · exact h.elim
theorem rowLe_live {each : Bool} {a b : Row} (h : rowLe fz ρ H each a b) (hl : b.live = true) : a.live = true := by
  cases a with
  | cells => rfl
  | map => rfl
  | iter => rfl
  | dead =>
    simp only [rowLe] at h
    split at h
    · cases hl
    · exact h.elim
theorem tempsK_ok {T : TT} : ∀ {l : List (Nat × AV)}, tempsK fz ρ T H l → ∀ t b, ofL l t = some b → ∃ a, T t = some a ∧ leK fz ρ H a b
  | [], _, t, b, h => by cases h
  | (k, c) :: l, h, t, b, hb => by
    obtain ⟨h1, h2⟩ := h
    simp only [ofL] at hb
    by_cases e : t = k
    · subst e
      rw [TT.put_same] at hb
      cases hb
      split at h1
      · exact ⟨_, ‹_›, h1⟩
      · exact h1.elim
    · rw [TT.put_ne _ _ e] at hb
      exact tempsK_ok h2 t b hb
theorem rowsK_ok : ∀ {l : List (Id × Row)}, rowsK fz ρ H l → ∀ r b, ofH l r = some b →
    (∃ e q a, look ρ r = some (.old e q) ∧ H q = some a ∧ rowLe fz ρ H e a b) ∨ (∃ sz bs, look ρ r = some (.new sz bs) ∧ b = .cells sz bs [])
  | [], _, r, b, h => by cases h
  | (k, c) :: l, h, r, b, hb => by
    obtain ⟨h1, h2⟩ := h
    simp only [ofH] at hb
    by_cases e : r = k
    · subst e
      rw [HH.put_same] at hb
      cases hb
      split at h1
      · split at h1
        · exact .inl ⟨_, _, _, ‹_›, ‹_›, h1⟩
        · exact h1.elim
      · split at h1
        · obtain ⟨rfl, rfl⟩ := h1
          exact .inr ⟨_, _, ‹_›, rfl⟩
        · exact h1.elim
      · exact h1.elim
    · rw [HH.put_ne _ _ e] at hb
      exact rowsK_ok h2 r b hb
theorem look_mem : ∀ {l : List (Id × Src)} {r : Id} {s : Src}, look l r = some s → (r, s) ∈ l
  | [], r, s, h => by cases h
  | (k, s') :: l, r, s, h => by
    unfold look at h
    split at h
    · rename_i hi
      cases h
      rw [(ideq_iff _ _).1 hi]
      simp
    · exact List.mem_cons_of_mem _ (look_mem h)
theorem keysIn_ok {HL : List (Id × Row)} : ∀ {l : List (Id × Src)}, keysIn HL l = true → ∀ r s, (r, s) ∈ l → ∃ row, ofH HL r = some row
  | [], _, r, s, h => by cases h
  | (k, s') :: l, h, r, s, hm => by
    simp only [keysIn, Bool.and_eq_true] at h
    rcases List.mem_cons.1 hm with e | hm
    · obtain ⟨rfl, rfl⟩ := Prod.mk.inj e
      obtain ⟨p, hp, hi⟩ := List.any_eq_true.1 h.1
      have he := (ideq_iff _ _).1 hi
      have : ∀ (L : List (Id × Row)), p ∈ L → ∃ row, ofH L r = some row := by
        intro L
        induction L with
        | nil => intro h; cases h
        | cons q L ih =>
          intro hq
          obtain ⟨qk, qv⟩ := q
          simp only [ofH]
          by_cases e : r = qk
          · subst e; exact ⟨_, HH.put_same _ _ _⟩
          · rw [HH.put_ne _ _ e]
            rcases List.mem_cons.1 hq with h | h
            · subst h; exact absurd he.symm e
            · exact ih h
      exact this HL hp
    · exact keysIn_ok h.2 r s hm
theorem dropped_not : ∀ {l : List (Id × Src)} {q : Id}, dropped l q = true → ∀ r e, (r, Src.old e q) ∉ l
  | [], q, _, r, e, h => by cases h
  | (k, s) :: l, q, h, r, e, hm => by
    unfold dropped at h
    split at h
    · cases h
    · rename_i hs
      rcases List.mem_cons.1 hm with he | hm
      · cases he; simp [isOld, ideq_self] at hs
      · exact dropped_not h r e hm
theorem olds_inj : ∀ {l : List (Id × Src)}, olds l = true → ∀ r r' e e' q, look l r = some (.old e q) → look l r' = some (.old e' q) → r = r'
  | [], _, r, r', e, e', q, h, _ => by cases h
  | (k, s) :: l, ho, r, r', e, e', q, h1, h2 => by
    have tail : olds l = true := by
      cases s with
      | old => simp only [olds, Bool.and_eq_true] at ho; exact ho.2
      | new => exact ho
    unfold look at h1 h2
    split at h1
    · rename_i hi
      cases h1
      simp only [olds, Bool.and_eq_true] at ho
      split at h2
      · rename_i hi'
        rw [(ideq_iff _ _).1 hi, (ideq_iff _ _).1 hi']
      · exact absurd (look_mem h2) (dropped_not ho.1 _ _)
    · split at h2
      · cases h2
        simp only [olds, Bool.and_eq_true] at ho
        exact absurd (look_mem h1) (dropped_not ho.1 _ _)
      · exact olds_inj tail r r' e e' q h1 h2
/-- A state seen another way. -/
theorem Sub.of_check (ρ : List (Id × Src)) {T : TT} {TL : List (Nat × AV)} {HL : List (Id × Row)} (h : subK ρ T H TL HL) (h0 : Gen0 ρ H) : Sub T H (ofL TL) (ofH HL) := by
  unfold subK at h
  split at h
  rotate_left
  · exact h.elim
  rename_i c1 c2
  obtain ⟨ht, hr⟩ := h
  intro w μ F tm hH hT
  have mlook : ∀ {r l b}, muOf ρ μ r = some l → l.b = some b → ∃ e q, look ρ r = some (.old e q) ∧ μ q = some l := by
    intro r l b hm hb
    unfold muOf at hm
    split at hm
    · exact ⟨_, _, ‹_›, hm⟩
    · cases hm; cases hb
    · cases hm
  have old : ∀ {r b l bb}, ofH HL r = some b → b.live = true → muOf ρ μ r = some l → l.b = some bb → ∃ e q a, look ρ r = some (.old e q) ∧ μ q = some l ∧ H q = some a ∧ a.live = true := by
    intro r b l bb h1 h2 h3 h4
    obtain ⟨e, q, h5, h6⟩ := mlook h3 h4
    rcases rowsK_ok hr r b h1 with ⟨e', q', a, k1, k2, k3⟩ | ⟨sz, bs, k1, _⟩
    · rw [h5] at k1
      cases k1
      exact ⟨_, _, _, h5, h6, k2, rowLe_live k3 h2⟩
    · rw [h5] at k1; cases k1
  refine ⟨muOf ρ μ, frOf (dropped ρ) μ F H, ⟨fun r b hb => ?_, fun r hn => ?_, fun r r' b b' l l' bb h1 h2 h3 h4 h5 h6 h7 h8 => ?_, fun r b l bb h1 h2 h3 h4 hF => ?_, fun b hb => ?_⟩, fun t b hb => ?_, fun b hb => .inl hb, fun b hb => ?_, fun b hb => ?_, fun r l hz hl => ?_⟩
  · rcases rowsK_ok hr r b hb with ⟨e, q, a, k1, k2, k3⟩ | ⟨sz, bs, k1, rfl⟩
    · obtain ⟨l, g1, g2⟩ := hH.rows q a k2
      exact ⟨l, by simp [muOf, k1, g1], rowLe_ok hH k3 g2⟩
    · exact ⟨⟨none, 0, sz, bs, 0⟩, by simp [muOf, k1], rfl, rfl, by simp, by simp, rfl, rfl⟩
  · unfold muOf
    split
    · obtain ⟨row, hrow⟩ := keysIn_ok c1 _ _ (look_mem ‹_›)
      rw [hn] at hrow; cases hrow
    · obtain ⟨row, hrow⟩ := keysIn_ok c1 _ _ (look_mem ‹_›)
      rw [hn] at hrow; cases hrow
    · rfl
  · obtain ⟨e, q, a, k1, k2, k3, k4⟩ := old h1 h2 h5 h7
    obtain ⟨e', q', a', k1', k2', k3', k4'⟩ := old h3 h4 h6 h8
    obtain rfl := hH.inj q q' a a' l l' bb k3 k4 k3' k4' k2 k2' h7 h8
    exact olds_inj c2 _ _ _ _ _ k1 k1'
  · obtain ⟨e, q, a, k1, k2, k3, k4⟩ := old h1 h2 h3 h4
    rcases hF with hF | ⟨r2, row2, l2, d1, d2, d3, d4, d5⟩
    · exact hH.disj q a l bb k3 k4 k2 h4 hF
    · obtain rfl := hH.inj q r2 a row2 l l2 bb k3 k4 d2 d3 k2 d4 h4 d5
      exact dropped_not d1 _ _ (look_mem k1)
  · rcases hb with hb | ⟨r2, row2, l2, d1, d2, d3, d4, d5⟩
    · exact hH.lt b hb
    · exact hH.row_lt ⟨r2, row2, l2, d2, d3, d4, d5⟩
  · obtain ⟨a, h1, h2⟩ := tempsK_ok ht t b hb
    exact ⟨⟨a, h1⟩, leK_ok hH (hT t a h1) h2⟩
  · rcases hb with hb | ⟨r2, row2, l2, d1, d2, d3, d4, d5⟩
    · exact .inl hb
    · exact .inr ⟨r2, row2, l2, d2, d3, d4, d5⟩
  · obtain ⟨r, row, l, h1, h2, h3, h4⟩ := hb
    obtain ⟨e, q, a, k1, k2, k3, k4⟩ := old h1 h2 h3 h4
    exact ⟨q, a, l, k3, k4, k2, h4⟩
  · have hne : H r ≠ none := fun hn => by rw [hH.dom r hn] at hl; cases hl
    obtain ⟨e, he⟩ := h0 r hz hne
    simp [muOf, he, hl]
/-- A value, all of whose rows are let go, as memory that nobody writes. -/
theorem Ent.of_check {a b : AV} (h : leK (dropped []) [] H a b) (hb : idf b = true) : Ent H a b := by
  intro w μ F v hH hv
  refine (idf_frz (leK_ok hH hv h) hb).mono (fun _ _ => rfl) fun b hb => ?_
  rcases hb with hb | ⟨r, row, l, _, d2, d3, d4, d5⟩
  · exact .inl hb
  · exact .inr ⟨r, row, l, d2, d3, d4, d5⟩
/-- A value that names no row, seen another way. -/
theorem EntS.of_check {a b : AV} (h : leF a b) (ha : idf a = true) : EntS a b := fun _ _ _ _ hv => leF_ok (fun _ h => h) h (idf_frz hv ha)
theorem EntS.same {a : AV} (ha : idf a = true) : EntS a a := fun _ _ _ _ hv => idf_frz hv ha
end
end Go.Eng
/- Small laws for the walks. -/
namespace Go.Eng
theorem Gen0.emp {ρ : List (Id × Src)} : Gen0 ρ HH.emp := fun r _ h => absurd rfl h
theorem Gen0.put {ρ : List (Id × Src)} {H : HH} {k : Id} {v : Row} (h : Gen0 ρ H) (hk : k.1 ≠ 0) : Gen0 ρ (H.put k v) := by
  intro r h0 hr
  have hne : r ≠ k := fun e => hk (e ▸ h0)
  rw [HH.put_ne _ _ hne] at hr
  exact h r h0 hr
theorem Gen0.put0 {ρ : List (Id × Src)} {H : HH} {k : Id} {v : Row} (h : Gen0 ρ H) (hk : ∃ e, look ρ k = some (.old e k)) : Gen0 ρ (H.put k v) := by
  intro r h0 hr
  by_cases e : r = k
  · subst e; exact hk
  · rw [HH.put_ne _ _ e] at hr
    exact h r h0 hr
theorem Gen0.ofH {ρ : List (Id × Src)} : ∀ {L : List (Id × Row)}, L.all (fun p => !Nat.beq p.1.1 0) = true → Gen0 ρ (ofH L)
  | [], _ => Gen0.emp
  | (k, v) :: L, h => by
    simp only [List.all_cons, Bool.and_eq_true] at h
    exact Gen0.put (Gen0.ofH h.2) fun e => by rw [e] at h; simp at h
theorem idfL_cells (g : GV) : idfL g.cells = true := rfl
theorem idfL_fcells (g : ByteArray × GV) : idfL (fcells g) = true := rfl
theorem GV.sizeOf_list {k n : Int} {t : ByteArray} {l : List GV} {d : List (ByteArray × GV)} {g : GV} (h : g ∈ l) : SizeOf.sizeOf g < SizeOf.sizeOf (GV.mk k n t l d) := by
  have := List.sizeOf_lt_of_mem h
  simp
  omega
theorem GV.sizeOf_doc {k n : Int} {t : ByteArray} {l : List GV} {d : List (ByteArray × GV)} {g : ByteArray × GV} (h : g ∈ d) : SizeOf.sizeOf g.2 < SizeOf.sizeOf (GV.mk k n t l d) := by
  have := List.sizeOf_lt_of_mem h
  cases g
  simp at this ⊢
  omega
theorem wrap64 {x : Int} (h1 : -9223372036854775808 ≤ x) (h2 : x < 9223372036854775808) : IntKind.i64.wrap x = x := by
  simp only [IntKind.wrap, IntKind.signed, IntKind.bits]
  simp
  omega
theorem wrap_succ {i n : Nat} (h : i < n) (hn : n ≤ R) : IntKind.i64.wrap ((i : Int) + 1) = ((i + 1 : Nat) : Int) := by
  rw [wrap64 (by omega) (by simp only [R] at hn; omega)]
  omega
theorem take_snoc {α β : Type} [Inhabited α] (f : α → β) {l : List α} {i : Nat} (h : i < l.length) : (((l.take i).map f).drop 0).take i ++ [f (l.getD i default)] = (l.take (i + 1)).map f := by
  rw [List.drop_zero, List.take_of_length_le (by simp; omega)]
  have : l.take (i + 1) = l.take i ++ [l[i]] := by rw [List.take_append_getElem]
  rw [this, List.map_append]
  simp [h]
theorem idfL_map {α : Type} {f : α → List AV} (hf : ∀ a, idfL (f a) = true) (l : List α) : ∀ e, e ∈ l.map f → idfL e = true := by
  intro e he
  obtain ⟨a, _, rfl⟩ := List.mem_map.1 he
  exact hf a
theorem le_of_mul {n k : Nat} (h : n * (k + 1) ≤ R) : n ≤ R := Nat.le_trans (Nat.le_mul_of_pos_right _ (Nat.succ_pos k)) h
theorem frz_map {α : Type} [Inhabited α] {f : α → List AV} (hf : ∀ a, idfL (f a) = true) {l : List α} {n : Nat} (hn : n ≤ l.length) : ∀ i, i < n → ((l.take n).map f).getD (0 + i) [] = f (l.getD i default) ∧ idfL (f (l.getD i default)) = true := by
  intro i hi
  refine ⟨?_, hf _⟩
  have h2 : i < l.length := by omega
  simp [List.getD_eq_getElem?_getD, List.getElem?_take, hi, h2]
theorem dT {p : Prop} {i : Decidable p} : (@decide p i = true) ↔ p := ⟨of_decide_eq_true, decide_eq_true⟩
theorem dF {p : Prop} {i : Decidable p} : (@decide p i = false) ↔ ¬ p := ⟨of_decide_eq_false, decide_eq_false⟩
theorem none_some {α : Type} {x : Option α} : ∀ m, (none : Option α) = some m → x = some m := fun _ h => by cases h
end Go.Eng
/- Calls of functions that only compute, in a walk. -/
namespace Go.Eng
theorem EntS.of_leK {a b : AV} (h : leK (dropped []) [] HH.emp a b) (ha : idf a = true) (hb : idf b = true) : EntS a b := by
  intro w μ F v hv
  have := leK_frz (fz := dropped []) (ρ := []) (H := HH.emp) (μ := μ) (idf_frz hv ha) h
  refine (idf_frz this hb).mono (fun _ _ => rfl) fun b hb => ?_
  rcases hb with hb | ⟨r, row, l, _, h, _⟩
  · exact hb
  · simp [HH.emp] at h
def leKL (ρ : List (Id × Src)) (H : HH) : List AV → List AV → Prop := leK.leL (dropped ρ) ρ H
theorem EntSL.of_leK : ∀ {l m : List AV}, leKL [] HH.emp l m → idfL l = true → idfL m = true → EntSL l m
  | [], [], _, _, _ => trivial
  | [], _ :: _, h, _, _ => by simp only [leKL, leK.leL] at h
  | _ :: _, [], h, _, _ => by simp only [leKL, leK.leL] at h
  | a :: l, b :: m, h, h1, h2 => by
    simp only [leKL, leK.leL] at h
    simp only [idfL, idf.idfL, Bool.and_eq_true] at h1 h2
    exact ⟨EntS.of_leK h.1 h1.1 h2.1, EntSL.of_leK h.2 h1.2 h2.2⟩
theorem EntSL.same : ∀ {l : List AV}, idfL l = true → EntSL l l
  | [], _ => trivial
  | a :: l, h => by
    simp only [idfL, idf.idfL, Bool.and_eq_true] at h
    exact ⟨EntS.same h.1, EntSL.same h.2⟩
/-- A function that only computes, called in a plain region. -/
theorem call_pure {cx : Cx} {f : FuncId} {args args0 : List AV} {H : HH} {v : AV} {K KP : AV → HH → Prop} (h : PSpec cx f args0 (.ret v)) (he : EntSL args args0) (hk : K v H) : CallW cx false f args H K KP :=
  ⟨_, PCall.spec ⟨args0, h, .inl he⟩, fun o H' ⟨ho, hH⟩ => by subst ho; subst hH; exact hk⟩
/-- The same in a drawing region. -/
theorem call_quiet {cx : Cx} {f : FuncId} {args args0 : List AV} {H : HH} {v : AV} {K KP : AV → HH → Prop} (h : PSpec cx f args0 (.ret v)) (he : EntSL args args0) (hk : K v H) : CallW cx true f args H K KP := ⟨args0, v, h, he, hk⟩
/-- The same, handed just what its law says. -/
theorem call_same {cx : Cx} {q : Bool} {f : FuncId} {args : List AV} {H : HH} {v : AV} {K KP : AV → HH → Prop} (h : PSpec cx f args (.ret v)) (he : idfL args = true) (hk : K v H) : CallW cx q f args H K KP := by
  cases q
  · exact call_pure h (EntSL.same he) hk
  · exact call_quiet h (EntSL.same he) hk
theorem call_le {cx : Cx} {q : Bool} {f : FuncId} {args args0 : List AV} {H : HH} {v : AV} {K KP : AV → HH → Prop} (h : PSpec cx f args0 (.ret v)) (hl : leKL [] HH.emp args args0) (h1 : idfL args = true) (h2 : idfL args0 = true) (hk : K v H) : CallW cx q f args H K KP := by
  cases q
  · exact call_pure h (EntSL.of_leK hl h1 h2) hk
  · exact call_quiet h (EntSL.of_leK hl h1 h2) hk
theorem RegP.enter {A X Y Z : Prop} (h : X) : RegP (A → X) Y Z := .go fun _ => h
theorem DrawP.range {cx : Cx} {nt g : Nat} {ops : Array Oper} {T : TT} {H : HH} {K : TT → HH → Prop} {KP : AV → HH → Prop} {Y : Prop} (h1 : orderOk cx (fun _ => true) ops (List.range ops.size) = true) (h2 : WL cx nt g (fun _ => true) ops (List.range ops.size) T H K KP) :
    DrawP (∃ q ord, orderOk cx q ops ord = true ∧ WL cx nt g q ops ord T H K KP) Y := .ord ⟨_, _, h1, h2⟩
theorem DrawP.rangeQ {cx : Cx} {nt g : Nat} {ops : Array Oper} {T : TT} {H : HH} {K : TT → HH → Prop} {KP : AV → HH → Prop} {Y : Prop} (q : Nat → Bool) (h1 : orderOk cx q ops (List.range ops.size) = true) (h2 : WL cx nt g q ops (List.range ops.size) T H K KP) :
    DrawP (∃ q ord, orderOk cx q ops ord = true ∧ WL cx nt g q ops ord T H K KP) Y := .ord ⟨_, _, h1, h2⟩
theorem br {b : Bool} {X Y : Prop} : (b = true → X) → (b = false → Y) → (match b with | true => X | false => Y) := by
  intro h1 h2
  cases b
  · exact h2 rfl
  · exact h1 rfl
theorem lt0 {α : Type} {f g : Nat → α} : ∀ i, i < 0 → f i = g i := fun _ h => absurd h (Nat.not_lt_zero _)
theorem lt1 {α : Type} {f g : Nat → α} (h0 : f 0 = g 0) : ∀ i, i < 1 → f i = g i := by
  intro i h
  match i, h with
  | 0, _ => exact h0
theorem lt2 {α : Type} {f g : Nat → α} (h0 : f 0 = g 0) (h1 : f 1 = g 1) : ∀ i, i < 2 → f i = g i := by
  intro i h
  match i, h with
  | 0, _ => exact h0
  | 1, _ => exact h1
theorem lt3 {α : Type} {f g : Nat → α} (h0 : f 0 = g 0) (h1 : f 1 = g 1) (h2 : f 2 = g 2) : ∀ i, i < 3 → f i = g i := by
  intro i h
  match i, h with
  | 0, _ => exact h0
  | 1, _ => exact h1
  | 2, _ => exact h2
theorem in4 {α β : Type} {Q : Prop} {a b : α} {c d : β} (h1 : a = b := by exact rfl) (h2 : c = d := by exact rfl) (h3 : Q := by first | exact fun _ _ => rfl | exact lt1 rfl | exact lt2 rfl rfl | exact lt3 rfl rfl rfl) : a = b ∧ c = d ∧ Q := ⟨h1, h2, h3⟩
end Go.Eng
/- Functions that are handed rows of their caller's; calls of them. -/
namespace Go.Eng
/-- Names turned. -/
def renAV (m : Id → Id) : AV → AV
  | .row r o n c => .row (m r) o n c
  | .ptr r i j => .ptr (m r) i j
  | .mref r => .mref (m r)
  | .clo fn a b => .clo fn (renL a) (renL b)
  | .ifc t v => .ifc t (renAV m v)
  | .agg l => .agg (renL l)
  | .tup l => .tup (renL l)
  | a => a
where renL : List AV → List AV
  | [] => []
  | a :: l => renAV m a :: renL l
abbrev renL (m : Id → Id) := renAV.renL m
def renLL (m : Id → Id) : List (List AV) → List (List AV)
  | [e] => [renL m e]
  | es => es.map (renL m)
def renRow (m : Id → Id) : Row → Row
  | .cells sz bs es => .cells sz bs (renLL m es)
  | .map kv => .map (kv.map fun p => (renAV m p.1, renAV m p.2))
  | .iter s p => .iter s p
  | .dead => .dead
def renOut (m : Id → Id) : Out → Out | .ret v => .ret (renAV m v) | .pan v => .pan (renAV m v)
/-- A function that is handed rows: they have names of generation 0; what comes of them, and of new ones. -/
def MSpec (cx : Cx) (f : FuncId) (args : List AV) (L : List (Id × Row)) {ι : Type} (O : ι → Out) (L' : ι → List (Id × Row)) : Prop :=
  ∀ w μ F vs, HRep w μ F (ofH L) → GOK cx w F → All2 (Rep w μ F) args vs →
    CallsX cx.P f vs w fun e w' => ∃ x μ' F', EndR w' μ' F' (O x) e ∧ HRep w' μ' F' (ofH (L' x)) ∧ GOK cx w' F' ∧ FrB w μ F (ofH L) w' μ' F' (ofH (L' x))
def oneT (v : AV) : TT := TT.emp.put 0 v
def retM {ι : Type} (O : ι → Out) (L' : ι → List (Id × Row)) (v : AV) (H : HH) : Prop := ∃ x u, O x = .ret u ∧ Sub (oneT v) H (ofL [(0, u)]) (ofH (L' x))
def panM {ι : Type} (O : ι → Out) (L' : ι → List (Id × Row)) (v : AV) (H : HH) : Prop := ∃ x u, O x = .pan u ∧ Sub (oneT v) H (ofL [(0, u)]) (ofH (L' x))
theorem FrB.sub {w μ F H w1 μ1 F1 H1 μ2 F2 H2} (f : FrB w μ F H w1 μ1 F1 H1) (h3 : ∀ b, F1 b → F2 b) (h4 : ∀ b, F2 b → F1 b ∨ Lv μ1 H1 b) (h5 : ∀ b, Lv μ2 H2 b → Lv μ1 H1 b) (h6 : ∀ r l, r.1 = 0 → μ1 r = some l → μ2 r = some l) : FrB w μ F H w1 μ2 F2 H2 :=
  ⟨f.os, f.tape, f.output, f.size, f.keep, fun r l h0 h => h6 r l h0 (f.mu r l h0 h), fun b hb => h3 b (f.fr b hb), fun b hb => (h4 b hb).elim (f.fr' b) (fun h => (f.lv b h).elim (fun h => .inr (.inl h)) fun h => .inr (.inr h)), fun b hb => f.lv b (h5 b hb)⟩
theorem MSpec.of_WC {cx : Cx} (ok : CxOK cx) {f : FuncId} {fn : Func} {c : Code} (hf : cx.P.funcs[f]? = some fn) (hb : fn.body = some c) (hcall : ∀ (vs : Array Value) (w : World), (callFunc f vs).run cx.P w = .ok (.enter f vs) w)
    {args : List AV} {L : List (Id × Row)} {g : Nat} (hn : args.length ≤ fn.ntmps) {ι : Type} {O : ι → Out} {L' : ι → List (Id × Row)} (hk : WC cx fn.ntmps g c (argT 0 args) (ofH L) (endK cx fn (retM O L') (panM O L'))) :
    MSpec cx f args L O L' := by
  intro w μ F vs hH hG ha
  have hc := body_sound ok hf hb hcall hn hk hH hG ha
  have fin : ∀ (e : Ending) (w' : World), (∃ o' H' μ' F', (match o' with | .ret v => retM O L' v H' | .pan v => panM O L' v H') ∧ EndR w' μ' F' o' e ∧ HRep w' μ' F' H' ∧ GOK cx w' F' ∧ FrB w μ F (ofH L) w' μ' F' H') →
      ∃ x μ' F', EndR w' μ' F' (O x) e ∧ HRep w' μ' F' (ofH (L' x)) ∧ GOK cx w' F' ∧ FrB w μ F (ofH L) w' μ' F' (ofH (L' x)) := by
    rintro e w' ⟨o', H', μ', F', h1, h2, h3, h4, h5⟩
    have use : ∀ {v u : AV} {x : ι} {y : Value}, Sub (oneT v) H' (ofL [(0, u)]) (ofH (L' x)) → Rep w' μ' F' v y → ∃ μ2 F2, Rep w' μ2 F2 u y ∧ HRep w' μ2 F2 (ofH (L' x)) ∧ GOK cx w' F2 ∧ FrB w μ F (ofH L) w' μ2 F2 (ofH (L' x)) := by
      intro v u x y hs hr
      obtain ⟨μ2, F2, k1, k2, k3, k4, k5, k6⟩ := hs w' μ' F' (fun _ => y) h3 (fun t av ht => by
        by_cases e : t = 0
        · subst e; simp only [oneT, TT.put_same] at ht; cases ht; exact hr
        · simp only [oneT] at ht; rw [TT.put_ne _ _ e] at ht; cases ht)
      exact ⟨μ2, F2, (k2 0 u (by simp only [ofL, TT.put_same])).2, k1, h4.mono (fun _ _ => rfl) k3, h5.sub k3 k4 k5 k6⟩
    cases h2 with
    | ret hr =>
      obtain ⟨x, u, hx, hs⟩ := h1
      obtain ⟨μ2, F2, k1, k2, k3, k4⟩ := use hs hr
      exact ⟨x, μ2, F2, hx ▸ .ret k1, k2, k3, k4⟩
    | pan hr =>
      obtain ⟨x, u, hx, hs⟩ := h1
      obtain ⟨μ2, F2, k1, k2, k3, k4⟩ := use hs hr
      exact ⟨x, μ2, F2, hx ▸ .pan k1, k2, k3, k4⟩
  unfold CallsX at hc ⊢
  split at hc
  · exact hc.mono fun e w' h => fin e w' h
  · exact fin _ _ hc
  · exact hc.mono fun v w' h => fin _ _ h
  · exact fin _ _ hc
  · exact hc.elim
end Go.Eng
/- Calls of functions that are handed rows: sound. -/
namespace Go.Eng
def nofz : Id → Bool := fun _ => false
/-- The callee's name of a row, as the caller's. -/
def backM (ρ : List (Id × Src)) (g d : Nat) (r : Id) : Id := match look ρ r with
  | some (.old _ q) => q
  | _ => (g, d, r.2.1 + 1)
def updH (m : Id → Id) (H : HH) : List (Id × Row) → HH
  | [] => H
  | (k, v) :: l => (updH m H l).put (m k) (renRow m v)
def allOld : List (Id × Src) → Bool
  | [] => true
  | (k, .old _ _) :: l => Nat.beq k.1 0 && allOld l
  | (_, .new ..) :: _ => false
/-- The rows behind the call: those handed on, and new ones. -/
def newOk (ρ : List (Id × Src)) (H : HH) (g d : Nat) : List (Id × Row) → Prop
  | [] => True
  | (k, _) :: l => (match look ρ k with
    | some _ => True
    | none => match Nat.beq k.1 1, Nat.beq k.2.2 0, H (g, d, k.2.1 + 1) with
      | true, true, none => True
      | _, _, _ => False) ∧ newOk ρ H g d l
def muBack (m : Id → Id) (μ' μ : Id → Option Loc) : List (Id × Row) → Id → Option Loc
  | [], r => μ r
  | (k, _) :: l, r => match ideq (m k) r with | true => μ' k | false => muBack m μ' μ l r
theorem frOf_no {μ : Id → Option Loc} {F : Nat → Prop} {H : HH} : frOf nofz μ F H = F := by
  funext b
  simp [frOf, nofz]
section
variable {ρ : List (Id × Src)} {H : HH} {g d : Nat} {L' : List (Id × Row)} {μ μ' : Id → Option Loc}
theorem ofH_mem : ∀ {l : List (Id × Row)} {k : Id} {v : Row}, ofH l k = some v → ∃ v', (k, v') ∈ l
  | [], k, v, h => by cases h
  | (j, u) :: l, k, v, h => by
    simp only [ofH] at h
    by_cases e : k = j
    · subst e; exact ⟨u, by simp⟩
    · rw [HH.put_ne _ _ e] at h
      obtain ⟨v', h'⟩ := ofH_mem h
      exact ⟨v', by simp [h']⟩
theorem mem_ofH : ∀ {l : List (Id × Row)} {k : Id} {v : Row}, (k, v) ∈ l → ∃ v', ofH l k = some v'
  | [], k, v, h => by cases h
  | (j, u) :: l, k, v, h => by
    simp only [ofH]
    by_cases e : k = j
    · subst e; exact ⟨u, HH.put_same _ _ _⟩
    · rw [HH.put_ne _ _ e]
      rcases List.mem_cons.1 h with h | h
      · cases h; exact absurd rfl e
      · exact mem_ofH h
/-- The names that the callee's rows get are apart. -/
def InjOn (m : Id → Id) (l : List (Id × Row)) : Prop := ∀ k k' v v', (k, v) ∈ l → (k', v') ∈ l → m k = m k' → k = k'
theorem updH_in {m : Id → Id} : ∀ {l : List (Id × Row)}, InjOn m l → ∀ k b, ofH l k = some b → updH m H l (m k) = some (renRow m b)
  | [], _, k, b, h => by cases h
  | (j, u) :: l, hi, k, b, h => by
    simp only [ofH] at h
    simp only [updH]
    by_cases e : k = j
    · subst e
      rw [HH.put_same] at h ⊢
      cases h; rfl
    · rw [HH.put_ne _ _ e] at h
      obtain ⟨v', hm⟩ := ofH_mem h
      rw [HH.put_ne _ _ fun h2 => e (hi k j v' u (by simp [hm]) (by simp) h2)]
      exact updH_in (fun a a' v v' h1 h2 => hi a a' v v' (by simp [h1]) (by simp [h2])) k b h
theorem updH_out {m : Id → Id} : ∀ {l : List (Id × Row)} {r : Id}, (∀ k v, (k, v) ∈ l → m k ≠ r) → updH m H l r = H r
  | [], r, _ => rfl
  | (j, u) :: l, r, h => by
    simp only [updH]
    rw [HH.put_ne _ _ fun e => h j u (by simp) e.symm]
    exact updH_out fun k v hk => h k v (by simp [hk])
theorem muBack_in {m : Id → Id} : ∀ {l : List (Id × Row)}, InjOn m l → ∀ k v, (k, v) ∈ l → muBack m μ' μ l (m k) = μ' k
  | [], _, k, v, h => by cases h
  | (j, u) :: l, hi, k, v, h => by
    unfold muBack
    split
    · rename_i hj
      have := hi j k u v (by simp) h ((ideq_iff _ _).1 hj)
      rw [this]
    · rename_i hj
      rcases List.mem_cons.1 h with h | h
      · cases h; simp [ideq_self] at hj
      · exact muBack_in (fun a a' v v' h1 h2 => hi a a' v v' (by simp [h1]) (by simp [h2])) k v h
theorem muBack_out {m : Id → Id} : ∀ {l : List (Id × Row)} {r : Id}, (∀ k v, (k, v) ∈ l → m k ≠ r) → muBack m μ' μ l r = μ r
  | [], r, _ => rfl
  | (j, u) :: l, r, h => by
    unfold muBack
    rw [ideq_ne (h j u (by simp))]
    exact muBack_out fun k v hk => h k v (by simp [hk])
theorem ren_rep {w : World} {F : Nat → Prop} {m : Id → Id} {μ1 : Id → Option Loc} (hm : ∀ r l, μ' r = some l → μ1 (m r) = some l) {a : AV} {v : Value} (h : Rep w μ' F a v) : Rep w μ1 F (renAV m a) v := by
  have len : ∀ {l : List AV}, (renL m l).length = l.length := by
    intro l
    induction l with
    | nil => rfl
    | cons a l ih => simp [renL, renAV.renL] at ih ⊢; exact ih
  have get : ∀ {l : List AV} (i : Nat) (hi : i < (renL m l).length), (renL m l)[i] = renAV m (l[i]'(by rw [len] at hi; exact hi)) := by
    intro l
    induction l with
    | nil => intro i hi; simp [renL, renAV.renL] at hi
    | cons a l ih =>
      intro i hi
      cases i with
      | zero => rfl
      | succ i => exact ih i (by simpa [renL, renAV.renL] using hi)
  have frzCase : ∀ {a : AV} {v : Value}, RepF w F a v → RepF w F (renAV m a) v := by
    intro a v h
    induction h with
    | lit h => exact .lit h
    | top h => exact .top h
    | fsE h => exact .fsE h
    | fs vs h1 h2 h3 h4 h5 h6 h7 h8 => exact .fs vs h1 h2 h3 h4 h5 h6 h7 h8
    | fp vs h1 h2 h3 h4 h5 => exact .fp vs h1 h2 h3 h4 h5
    | lz h1 => exact .lz h1
    | ifc _ ih => exact .ifc ih
    | agg h1 h2 ih => exact .agg (by rw [← h1]; exact len) fun i hi hi' => by rw [get i hi]; exact ih i _ hi'
    | tup h1 h2 ih => exact .tup (by rw [← h1]; exact len) fun i hi hi' => by rw [get i hi]; exact ih i _ hi'
    | clo h1 h2 h3 h4 i3 i4 => exact .clo (by rw [← h1]; exact len) (by rw [← h2]; exact len) (fun i hi hi' => by rw [get i hi]; exact i3 i _ hi') (fun i hi hi' => by rw [get i hi]; exact i4 i _ hi')
  induction h with
  | frz h => exact .frz (frzCase h)
  | row0 h1 h2 h3 => exact .row0 (hm _ _ h1) h2 h3
  | row h1 h2 h3 h4 h5 h6 h7 => exact .row (hm _ _ h1) h2 h3 h4 h5 h6 h7
  | ptr h1 h2 => exact .ptr (hm _ _ h1) h2
  | mref h1 h2 => exact .mref (hm _ _ h1) h2
  | ifc _ ih => exact .ifc ih
  | agg h1 h2 ih => exact .agg (by rw [← h1]; exact len) fun i hi hi' => by rw [get i hi]; exact ih i _ hi'
  | tup h1 h2 ih => exact .tup (by rw [← h1]; exact len) fun i hi hi' => by rw [get i hi]; exact ih i _ hi'
  | clo h1 h2 h3 h4 i3 i4 => exact .clo (by rw [← h1]; exact len) (by rw [← h2]; exact len) (fun i hi hi' => by rw [get i hi]; exact i3 i _ hi') (fun i hi hi' => by rw [get i hi]; exact i4 i _ hi')
theorem renL_len {m : Id → Id} : ∀ {l : List AV}, (renL m l).length = l.length
  | [] => rfl
  | a :: l => by simp [renL, renAV.renL]; exact renL_len (m := m) (l := l)
theorem renL_get {m : Id → Id} : ∀ {l : List AV} (i : Nat) (hi : i < (renL m l).length), (renL m l)[i] = renAV m (l[i]'(by rw [renL_len] at hi; exact hi))
  | [], i, hi => by simp [renL, renAV.renL] at hi
  | a :: l, 0, hi => rfl
  | a :: l, i + 1, hi => renL_get (l := l) i (by simpa [renL, renAV.renL] using hi)
theorem renLL_eq (m : Id → Id) (es : List (List AV)) : renLL m es = es.map (renL m) := by
  unfold renLL; split <;> simp
theorem renRow_rep {w : World} {F : Nat → Prop} {m : Id → Id} {μ1 : Id → Option Loc} (hm : ∀ r l, μ' r = some l → μ1 (m r) = some l) {l : Loc} {b : Row} (h : RowRep w μ' F l b) : RowRep w μ1 F l (renRow m b) := by
  cases b with
  | dead => trivial
  | cells sz bs es =>
    obtain ⟨a1, a2, a3, a4, a5⟩ := h
    simp only [renRow, renLL_eq]
    refine ⟨a1, a2, by simpa using a3, by simpa using a4, ?_⟩
    cases hb : l.b with
    | none => rw [hb] at a5; exact ⟨by rw [a5.1]; rfl, a5.2⟩
    | some b =>
      rw [hb] at a5
      obtain ⟨c, e, lo, hi, g1, g2, g3, g4⟩ := a5.h
      refine ⟨c, e, lo, hi, g1, g2, g3, fun i hi => ?_⟩
      have hi0 : i < es.length := by simpa using hi
      obtain ⟨k1, k2⟩ := g4 i hi0
      simp only [List.getElem_map]
      refine ⟨by rw [renL_len]; exact k1, fun j hj => ?_⟩
      obtain ⟨v, v1, v2, v3⟩ := k2 j (by rw [renL_len] at hj; exact hj)
      exact ⟨v, v1, v2, by rw [renL_get j hj]; exact ren_rep hm v3⟩
  | map kv =>
    obtain ⟨b, es, ck, g1, g2, g3, g4, g5⟩ := h
    simp only [renRow]
    refine ⟨b, es, ck, g1, g2, by simpa using g3, fun i hi hi' => ?_, g5⟩
    obtain ⟨k1, k2, k3⟩ := g4 i (by simpa using hi) hi'
    simp only [List.getElem_map]
    exact ⟨ren_rep hm k1, ren_rep hm k2, k3⟩
  | iter s p => exact h
theorem renRow_live {m : Id → Id} {b : Row} : (renRow m b).live = b.live := by cases b <;> rfl
end
end Go.Eng
/- Calls of functions that are handed rows: put together. -/
namespace Go.Eng
section
variable {cx : Cx} {f : FuncId} {args args0 : List AV} {H : HH} {L : List (Id × Row)} {ι : Type} {O : ι → Out} {L' : ι → List (Id × Row)}
/-- What is to be looked at ahead of the call. -/
def viewK (ρ : List (Id × Src)) (H : HH) (args args0 : List AV) (L : List (Id × Row)) : Prop :=
  match keysIn L ρ, olds ρ, allOld ρ with
  | true, true, true => leK.leL nofz ρ H args args0 ∧ rowsK nofz ρ H L
  | _, _, _ => False
theorem allOld_look : ∀ {ρ : List (Id × Src)}, allOld ρ = true → ∀ k s, look ρ k = some s → ∃ e q, s = .old e q ∧ k.1 = 0
  | [], _, k, s, h => by cases h
  | (j, .new _ _) :: l, h, k, s, hk => by cases h
  | (j, .old e q) :: l, h, k, s, hk => by
    simp only [allOld, Bool.and_eq_true] at h
    unfold look at hk
    split at hk
    · rename_i hi
      cases hk
      rw [(ideq_iff _ _).1 hi]
      exact ⟨e, q, rfl, Nat.eq_of_beq_eq_true h.1⟩
    · exact allOld_look h.2 k s hk
theorem newOk_mem {ρ : List (Id × Src)} {g d : Nat} : ∀ {l : List (Id × Row)}, newOk ρ H g d l → ∀ k v, (k, v) ∈ l → (∃ s, look ρ k = some s) ∨ (look ρ k = none ∧ k.1 = 1 ∧ k.2.2 = 0 ∧ H (g, d, k.2.1 + 1) = none)
  | [], _, k, v, h => by cases h
  | (j, u) :: l, h, k, v, hm => by
    obtain ⟨h1, h2⟩ := h
    rcases List.mem_cons.1 hm with e | hm
    · cases e
      split at h1
      · exact .inl ⟨_, ‹_›⟩
      · rename_i hl
        split at h1
        · rename_i c1 c2 c3
          exact .inr ⟨hl, Nat.eq_of_beq_eq_true c1, Nat.eq_of_beq_eq_true c2, c3⟩
        · exact h1.elim
    · exact newOk_mem h2 k v hm
theorem call_m {ρ : List (Id × Src)} {g d : Nat} (hs : MSpec cx f args0 L O L') (hv : viewK ρ H args args0 L) (hn : ∀ x, newOk ρ H g d (L' x)) :
    HSpec cx f args H fun o H' => ∃ x, o = renOut (backM ρ g d) (O x) ∧ H' = updH (backM ρ g d) H (L' x) := by
  intro w μ F vs hH hG ha
  unfold viewK at hv
  split at hv
  rotate_left
  · exact hv.elim
  rename_i c1 c2 c3
  obtain ⟨hargs, hrows⟩ := hv
  have oldOf : ∀ {k s}, look ρ k = some s → ∃ e q, s = .old e q ∧ k.1 = 0 := fun h => allOld_look c3 _ _ h
  -- the callee's view
  have mlook : ∀ {k l}, muOf ρ μ k = some l → ∃ e q, look ρ k = some (.old e q) ∧ k.1 = 0 ∧ μ q = some l := by
    intro k l h
    unfold muOf at h
    split at h
    · rename_i e q hq
      obtain ⟨_, _, _, h0⟩ := oldOf hq
      exact ⟨e, q, hq, h0, h⟩
    · rename_i hq
      obtain ⟨_, _, h', _⟩ := oldOf hq
      cases h'
    · cases h
  have rowL : ∀ {k b}, ofH L k = some b → ∃ e q a, look ρ k = some (.old e q) ∧ H q = some a ∧ rowLe nofz ρ H e a b := by
    intro k b h
    rcases rowsK_ok hrows k b h with h | ⟨sz, bs, h1, _⟩
    · exact h
    · obtain ⟨_, _, h', _⟩ := oldOf h1
      cases h'
  have hfr : frOf nofz μ F H = F := frOf_no
  have old : ∀ {k b l bb}, ofH L k = some b → b.live = true → muOf ρ μ k = some l → l.b = some bb → ∃ e q a, look ρ k = some (.old e q) ∧ μ q = some l ∧ H q = some a ∧ a.live = true := by
    intro k b l bb h1 h2 h3 h4
    obtain ⟨e, q, h5, _, h6⟩ := mlook h3
    obtain ⟨e', q', a, k1, k2, k3⟩ := rowL h1
    rw [h5] at k1
    cases k1
    exact ⟨_, _, _, h5, h6, k2, rowLe_live k3 h2⟩
  have hH0 : HRep w (muOf ρ μ) F (ofH L) := by
    refine ⟨fun r b hb => ?_, fun r hn => ?_, fun r r' b b' l l' bb h1 h2 h3 h4 h5 h6 h7 h8 => ?_, fun r b l bb h1 h2 h3 h4 hF => ?_, hH.lt⟩
    · obtain ⟨e, q, a, k1, k2, k3⟩ := rowL hb
      obtain ⟨l, g1, g2⟩ := hH.rows q a k2
      have := rowLe_ok (μ := μ) hH k3 g2
      rw [hfr] at this
      exact ⟨l, by simp [muOf, k1, g1], this⟩
    · cases hm : muOf ρ μ r with
      | none => rfl
      | some l =>
        obtain ⟨e, q, h5, _⟩ := mlook hm
        obtain ⟨row, hrow⟩ := keysIn_ok c1 _ _ (look_mem h5)
        rw [hn] at hrow; cases hrow
    · obtain ⟨e, q, a, k1, k2, k3, k4⟩ := old h1 h2 h5 h7
      obtain ⟨e', q', a', k1', k2', k3', k4'⟩ := old h3 h4 h6 h8
      obtain rfl := hH.inj q q' a a' l l' bb k3 k4 k3' k4' k2 k2' h7 h8
      exact olds_inj c2 _ _ _ _ _ k1 k1'
    · obtain ⟨e, q, a, k1, k2, k3, k4⟩ := old h1 h2 h3 h4
      exact hH.disj q a l bb k3 k4 k2 h4 hF
  have ha0 : All2 (Rep w (muOf ρ μ) F) args0 vs := by
    obtain ⟨k1, k2⟩ := leL_get hargs
    refine .of_get (by rw [← k1, ha.length]) fun i hi hi' => ?_
    have := leK_ok (μ := μ) hH (ha.get i (by omega) hi') (k2 i (by omega) hi)
    rw [hfr] at this
    exact this
  have lv0 : ∀ {b}, Lv (muOf ρ μ) (ofH L) b → ∃ k e q a l, look ρ k = some (.old e q) ∧ muOf ρ μ k = some l ∧ μ q = some l ∧ H q = some a ∧ a.live = true ∧ l.b = some b := by
    rintro b ⟨k, row, l, h1, h2, h3, h4⟩
    obtain ⟨e, q, a, k1, k2, k3, k4⟩ := old h1 h2 h3 h4
    exact ⟨k, e, q, a, l, k1, h3, k2, k3, k4, h4⟩
  have lvH : ∀ {b}, Lv (muOf ρ μ) (ofH L) b → Lv μ H b := fun h => by
    obtain ⟨k, e, q, a, l, _, _, h2, h3, h4, h5⟩ := lv0 h
    exact ⟨q, a, l, h3, h4, h2, h5⟩
  have hc := hs w (muOf ρ μ) F vs hH0 hG ha0
  let m := backM ρ g d
  have fin : ∀ (e : Ending) (w' : World), (∃ x μ' F', EndR w' μ' F' (O x) e ∧ HRep w' μ' F' (ofH (L' x)) ∧ GOK cx w' F' ∧ FrB w (muOf ρ μ) F (ofH L) w' μ' F' (ofH (L' x))) →
      ∃ o H' μ' F', (∃ x, o = renOut (backM ρ g d) (O x) ∧ H' = updH (backM ρ g d) H (L' x)) ∧ EndR w' μ' F' o e ∧ HRep w' μ' F' H' ∧ GOK cx w' F' ∧ Fr w μ F H w' μ' F' H' := by
    rintro e w' ⟨x, μ', F', h1, h2, h3, h4⟩
    have mOld : ∀ {k e q}, look ρ k = some (.old e q) → m k = q := fun h => by simp [m, backM, h]
    have mNew : ∀ {k}, look ρ k = none → m k = (g, d, k.2.1 + 1) := fun h => by simp [m, backM, h]
    have hq : ∀ {k e q}, look ρ k = some (.old e q) → ∃ a, H q = some a := by
      intro k e q h
      obtain ⟨row, hrow⟩ := keysIn_ok c1 _ _ (look_mem h)
      obtain ⟨e', q', a, k1, k2, _⟩ := rowL hrow
      rw [h] at k1; cases k1
      exact ⟨a, k2⟩
    have inj : InjOn m (L' x) := by
      intro k k' v v' hk hk' hm
      rcases newOk_mem (hn x) k v hk with ⟨s, hs⟩ | ⟨n1, n2, n3, n4⟩
      · obtain ⟨e1, q1, rfl, _⟩ := oldOf hs
        rcases newOk_mem (hn x) k' v' hk' with ⟨s', hs'⟩ | ⟨n1', n2', n3', n4'⟩
        · obtain ⟨e2, q2, rfl, _⟩ := oldOf hs'
          rw [mOld hs, mOld hs'] at hm
          subst hm
          exact olds_inj c2 _ _ _ _ _ hs hs'
        · rw [mOld hs, mNew n1'] at hm
          obtain ⟨a, haq⟩ := hq hs
          rw [hm, n4'] at haq; cases haq
      · rcases newOk_mem (hn x) k' v' hk' with ⟨s', hs'⟩ | ⟨n1', n2', n3', n4'⟩
        · obtain ⟨e2, q2, rfl, _⟩ := oldOf hs'
          rw [mOld hs', mNew n1] at hm
          obtain ⟨a, haq⟩ := hq hs'
          rw [← hm, n4] at haq; cases haq
        · rw [mNew n1, mNew n1'] at hm
          have hm2 : k.2.1 + 1 = k'.2.1 + 1 := (Prod.mk.inj (Prod.mk.inj hm).2).2
          exact Prod.ext (by rw [n2, n2']) (Prod.ext (by omega) (by rw [n3, n3']))
    let μ1 := muBack m μ' μ (L' x)
    have hm1 : ∀ r l, μ' r = some l → μ1 (m r) = some l := by
      intro r l hr
      have hne : ofH (L' x) r ≠ none := fun h => by rw [h2.dom r h] at hr; cases hr
      cases hx : ofH (L' x) r with
      | none => exact absurd hx hne
      | some b =>
        obtain ⟨v', hmem⟩ := ofH_mem hx
        show muBack m μ' μ (L' x) (m r) = _
        rw [muBack_in inj r v' hmem]; exact hr
    have hcov : ∀ r, (∃ k b, ofH (L' x) k = some b ∧ m k = r) ∨ (∀ k v, (k, v) ∈ L' x → m k ≠ r) := by
      intro r
      by_cases hx : ∃ k v, (k, v) ∈ L' x ∧ m k = r
      · obtain ⟨k, v, hk, he⟩ := hx
        obtain ⟨v', h'⟩ := mem_ofH hk
        exact .inl ⟨k, v', h', he⟩
      · exact .inr fun k v hk he => hx ⟨k, v, hk, he⟩
    -- rows handed on have kept their names
    have keepQ : ∀ {k e q l}, look ρ k = some (.old e q) → μ q = some l → μ' k = some l := by
      intro k e q l hk hl
      obtain ⟨_, _, _, h0⟩ := oldOf hk
      exact h4.mu k l h0 (by simp [muOf, hk, hl])
    have hmu : ∀ r l, μ r = some l → μ1 r = some l := by
      intro r l hr
      rcases hcov r with ⟨k, b, hb, rfl⟩ | ho
      · obtain ⟨v', hmem⟩ := ofH_mem hb
        show muBack m μ' μ (L' x) (m k) = _
        rw [muBack_in inj k v' hmem]
        rcases newOk_mem (hn x) k v' hmem with ⟨s, hs⟩ | ⟨n1, n2, n3, n4⟩
        · obtain ⟨e1, q1, rfl, _⟩ := oldOf hs
          rw [mOld hs] at hr
          exact keepQ hs hr
        · rw [mNew n1, hH.dom _ n4] at hr; cases hr
      · show muBack m μ' μ (L' x) r = _
        rw [muBack_out ho]; exact hr
    -- a row of the caller's that is not handed on
    have other : ∀ {r row l b}, H r = some row → row.live = true → μ r = some l → l.b = some b → (∀ k v, (k, v) ∈ L' x → m k ≠ r) → ¬ Lv (muOf ρ μ) (ofH L) b := by
      intro r row l b hr hlv hl hb ho hL
      obtain ⟨k, e1, q, a, l', k1, k2, k3, k4, k5, k6⟩ := lv0 hL
      obtain rfl := hH.inj r q row a l l' b hr hlv k4 k5 hl k3 hb k6
      have hk' := keepQ k1 k3
      have hne : ofH (L' x) k ≠ none := fun h => by rw [h2.dom k h] at hk'; cases hk'
      cases hx : ofH (L' x) k with
      | none => exact absurd hx hne
      | some b' =>
        obtain ⟨v', hmem⟩ := ofH_mem hx
        exact ho k v' hmem (mOld k1)
    have row1 : ∀ {r b}, updH m H (L' x) r = some b → (∃ k b0, ofH (L' x) k = some b0 ∧ m k = r ∧ b = renRow m b0 ∧ μ1 r = μ' k) ∨ (H r = some b ∧ μ1 r = μ r ∧ ∀ k v, (k, v) ∈ L' x → m k ≠ r) := by
      intro r b hb
      rcases hcov r with ⟨k, b0, hk, rfl⟩ | ho
      · rw [updH_in inj k b0 hk] at hb
        cases hb
        obtain ⟨v', hmem⟩ := ofH_mem hk
        exact .inl ⟨k, b0, hk, rfl, rfl, muBack_in inj k v' hmem⟩
      · rw [updH_out ho] at hb
        exact .inr ⟨hb, muBack_out ho, ho⟩
    have blk : ∀ {r b l bb}, updH m H (L' x) r = some b → b.live = true → μ1 r = some l → l.b = some bb → (∃ k b0, ofH (L' x) k = some b0 ∧ b0.live = true ∧ m k = r ∧ μ' k = some l) ∨ (H r = some b ∧ μ r = some l ∧ bb < w.heap.size ∧ ¬ Lv (muOf ρ μ) (ofH L) bb) := by
      intro r b l bb hb hlv hl hbb
      rcases row1 hb with ⟨k, b0, k1, k2, rfl, k4⟩ | ⟨k1, k2, k3⟩
      · exact .inl ⟨k, b0, k1, by rw [← renRow_live (m := m)]; exact hlv, k2, by rw [← k4]; exact hl⟩
      · rw [k2] at hl
        exact .inr ⟨k1, hl, hH.row_lt ⟨r, b, l, k1, hlv, hl, hbb⟩, other k1 hlv hl hbb k3⟩
    have apart : ∀ {k b0 l bb}, ofH (L' x) k = some b0 → b0.live = true → μ' k = some l → l.b = some bb → bb < w.heap.size → ¬ Lv (muOf ρ μ) (ofH L) bb → False := by
      intro k b0 l bb h5 h6 h7 h8 h9 h10
      rcases h4.lv bb ⟨k, b0, l, h5, h6, h7, h8⟩ with h | h
      · omega
      · exact h10 h
    refine ⟨renOut m (O x), updH m H (L' x), μ1, F', ⟨x, rfl, rfl⟩, ?_, ⟨fun r b hb => ?_, fun r hnn => ?_, fun r r' b b' l l' bb e1 e2 e3 e4 e5 e6 e7 e8 => ?_, fun r b l bb e1 e2 e3 e4 hF => ?_, h2.lt⟩, h3, ⟨h4.os, h4.tape, h4.output, h4.size, fun b hb hlv => h4.keep b hb fun h => hlv (lvH h), hmu, h4.fr, fun b hb => ?_, fun b hb => ?_⟩⟩
    · generalize O x = oo at h1
      cases h1 with
      | ret hr => exact .ret (ren_rep hm1 hr)
      | pan hr => exact .pan (ren_rep hm1 hr)
    · rcases row1 hb with ⟨k, b0, k1, k2, rfl, k4⟩ | ⟨k1, k2, k3⟩
      · obtain ⟨l, hl, hrow⟩ := h2.rows k b0 k1
        exact ⟨l, by rw [k4]; exact hl, renRow_rep hm1 hrow⟩
      · obtain ⟨l, hl, hrow⟩ := hH.rows r b k1
        refine ⟨l, by rw [k2]; exact hl, hrow.mono (fun hlv bb hbb => ?_) (fun bb hF => ?_) h4.fr hmu⟩
        · exact h4.keep bb (hH.row_lt ⟨r, b, l, k1, hlv, hl, hbb⟩) (other k1 hlv hl hbb k3)
        · refine h4.keep bb (hH.lt bb hF) fun hL => ?_
          obtain ⟨k, e1, q, a, l', j1, j2, j3, j4, j5, j6⟩ := lv0 hL
          exact hH.disj q a l' bb j4 j5 j3 j6 hF
    · rcases hcov r with ⟨k, b0, hk, rfl⟩ | ho
      · rw [updH_in inj k b0 hk] at hnn; cases hnn
      · rw [updH_out ho] at hnn
        show muBack m μ' μ (L' x) r = none
        rw [muBack_out ho]; exact hH.dom r hnn
    · rcases blk e1 e2 e5 e7 with ⟨k, b0, k1, k2, k3, k4⟩ | ⟨k1, k2, k3, k4⟩
      · rcases blk e3 e4 e6 e8 with ⟨k', b0', k1', k2', k3', k4'⟩ | ⟨k1', k2', k3', k4'⟩
        · obtain rfl := h2.inj k k' b0 b0' l l' bb k1 k2 k1' k2' k4 k4' e7 e8
          rw [← k3, ← k3']
        · exact (apart k1 k2 k4 e7 k3' k4').elim
      · rcases blk e3 e4 e6 e8 with ⟨k', b0', k1', k2', k3', k4'⟩ | ⟨k1', k2', k3', k4'⟩
        · exact (apart k1' k2' k4' e8 k3 k4).elim
        · exact hH.inj r r' b b' l l' bb k1 e2 k1' e4 k2 k2' e7 e8
    · rcases blk e1 e2 e3 e4 with ⟨k, b0, k1, k2, k3, k4⟩ | ⟨k1, k2, k3, k4⟩
      · exact h2.disj k b0 l bb k1 k2 k4 e4 hF
      · rcases h4.fr' bb hF with h | h | h
        · exact hH.disj r b l bb k1 e2 k2 e4 h
        · omega
        · exact k4 h
    · exact (h4.fr' b hb).imp id fun h => h.imp id lvH
    · obtain ⟨r, row, l, e1, e2, e3, e5⟩ := hb
      rcases blk e1 e2 e3 e5 with ⟨k, b0, k1, k2, k3, k4⟩ | ⟨k1, k2, k3, k4⟩
      · exact (h4.lv b ⟨k, b0, l, k1, k2, k4, e5⟩).imp id lvH
      · exact .inr ⟨r, row, l, k1, e2, k2, e5⟩
  unfold CallsX at hc ⊢
  split at hc
  · exact hc.mono fun e w' h => fin e w' h
  · exact fin _ _ hc
  · exact hc.mono fun v w' h => fin _ _ h
  · exact fin _ _ hc
  · exact hc.elim
/-- A call of a function that is handed rows, in a walk. -/
theorem call_mm (ρ : List (Id × Src)) (g d : Nat) {K KP : AV → HH → Prop} (hs : MSpec cx f args0 L O L') (hv : viewK ρ H args args0 L) (hn : ∀ x, newOk ρ H g d (L' x))
    (hk : ∀ x, match renOut (backM ρ g d) (O x) with | .ret v => K v (updH (backM ρ g d) H (L' x)) | .pan v => KP v (updH (backM ρ g d) H (L' x))) : CallW cx false f args H K KP :=
  ⟨_, call_m hs hv hn, fun o H' ⟨x, ho, hH⟩ => by
    have := hk x
    rw [ho, hH]
    cases hx : renOut (backM ρ g d) (O x) with
    | ret v => rw [hx] at this; exact this
    | pan v => rw [hx] at this; exact this⟩
end
end Go.Eng
/- Laws of the library's shelf, as laws of functions that only compute. -/
namespace Go.Eng
open Go.RowKit
theorem FrF.of_below {w w' : World} {F : Nat → Prop} (hF : ∀ b, F b → b < w.heap.size) (h : Below w.heap.size w w') : FrF w F w' F :=
  ⟨h.os, h.tape, h.output, h.size, h.block, fun _ h => .inl h, fun b hb => Nat.lt_of_lt_of_le (hF b hb) h.size⟩
theorem FrF.refl {w : World} {F : Nat → Prop} (hF : ∀ b, F b → b < w.heap.size) : FrF w F w F := .of_below hF (.refl _ _)
theorem PSpec.of_calls {cx : Cx} {f : FuncId} {args : List AV} {o : Out} (hcall : ∀ (vs : Array Value) (w : World), (callFunc f vs).run cx.P w = .ok (.enter f vs) w)
    (h : ∀ w F vs, (∀ b, F b → b < w.heap.size) → GOK cx w F → All2 (RepF w F) args vs → Calls cx.P f ⟨vs⟩ w fun e w' => ∃ F', EndF w' F' o e ∧ FrF w F w' F') : PSpec cx f args o := by
  intro w F vs hF hG ha
  unfold CallsX
  rw [hcall]
  exact h w F vs hF hG ha
theorem All2F.one {w : World} {F : Nat → Prop} {a : AV} {vs : List Value} (h : All2 (RepF w F) [a] vs) : ∃ v, vs = [v] ∧ RepF w F a v := by
  cases h with
  | cons h h2 => cases h2; exact ⟨_, rfl, h⟩
theorem All2F.two {w : World} {F : Nat → Prop} {a b : AV} {vs : List Value} (h : All2 (RepF w F) [a, b] vs) : ∃ v u, vs = [v, u] ∧ RepF w F a v ∧ RepF w F b u := by
  cases h with
  | cons h h2 =>
    obtain ⟨u, rfl, hu⟩ := All2F.one h2
    exact ⟨_, _, rfl, h, hu⟩
/-- A function whose answer is a plain value. -/
theorem PSpec.of_plain {cx : Cx} {f : FuncId} {args : List AV} {v : Value} (hp : Plain v) (hcall : ∀ (vs : Array Value) (w : World), (callFunc f vs).run cx.P w = .ok (.enter f vs) w)
    (h : ∀ w F vs, GOK cx w F → All2 (RepF w F) args vs → Calls cx.P f ⟨vs⟩ w fun e w' => e = .returned v ∧ Below w.heap.size w w') : PSpec cx f args (.ret (.lit v)) :=
  .of_calls hcall fun w F vs hF hG ha => (h w F vs hG ha).mono fun e w' ⟨he, hb⟩ => ⟨F, by rw [he]; exact .ret (.lit hp), .of_below hF hb⟩
end Go.Eng
/- What names no row is as itself. -/
namespace Go.Eng
section
variable {fz : Id → Bool} {ρ : List (Id × Src)} {H : HH}
theorem litLe_refl (v : Value) : litLe v v := by
  cases v <;> simp [litLe]
theorem fslLe_refl (c : Option Nat) (sz bs n : Nat) (el : Nat → List AV) : fslLe c sz bs n el (.fsl c sz bs n el) := ⟨fun _ h => h, rfl, .inr ⟨rfl, rfl, fun _ _ => rfl⟩⟩
mutual
theorem leK_refl : ∀ v : AV, idf v = true → leK fz ρ H v v
  | .lit v, _ => by simp only [leK, leF]; exact litLe_refl v
  | .top, _ => by simp only [leK, leF]
  | .fsl c sz bs n el, _ => by simp only [leK, leF]; exact fslLe_refl c sz bs n el
  | .fptr sz n el i j, _ => by simp only [leK, leF]
  | .row .., h => by cases h
  | .ptr .., h => by cases h
  | .clo fn a b, h => by
    simp only [idf, Bool.and_eq_true] at h
    simp only [leK]
    exact ⟨trivial, leL_refl a h.1, leL_refl b h.2⟩
  | .ifc t v, h => by simp only [leK]; exact ⟨trivial, leK_refl v h⟩
  | .agg l, h => by simp only [leK]; exact leL_refl l h
  | .tup l, h => by simp only [leK]; exact leL_refl l h
  | .mref r, h => by cases h
  | .lz d, _ => by simp only [leK, leF]
theorem leL_refl : ∀ l : List AV, idf.idfL l = true → leK.leL fz ρ H l l
  | [], _ => by simp only [leK.leL]
  | a :: l, h => by
    simp only [idf.idfL, Bool.and_eq_true] at h
    simp only [leK.leL]
    exact ⟨leK_refl a h.1, leL_refl l h.2⟩
end
end
/-- A row of its own, seen as one that nobody writes: all of it. -/
theorem frz_all {α : Type} [Inhabited α] {f : α → List AV} (hf : ∀ a, idfL (f a) = true) (l : List α) : ∀ i, i < l.length → (l.map f).getD (0 + i) [] = f (l.getD i default) ∧ idfL (f (l.getD i default)) = true := by
  intro i hi
  refine ⟨?_, hf _⟩
  simp [List.getD_eq_getElem?_getD, hi]
theorem len_map {α β : Type} (f : α → β) (l : List α) : (0 + l.length).le (l.map f).length := by simp
theorem snoc_map {α β : Type} (f : α → β) (l : List α) (a : α) : (((l.map f).drop 0).take l.length) ++ [f a] = (l ++ [a]).map f := by
  rw [List.drop_zero, List.take_of_length_le (by simp), List.map_append]; rfl
theorem idfL_app : ∀ (l m : List AV), idfL (l ++ m) = (idfL l && idfL m)
  | [], m => rfl
  | a :: l, m => by
    show (idf a && idfL (l ++ m)) = ((idf a && idfL l) && idfL m)
    rw [idfL_app l m, Bool.and_assoc]
end Go.Eng

/- Eng02: an engine for the program's code, and walks of its functions (F G). -/
import Derived.Test.YtlcepambcoobgaaGreatDoorEng01
/- Soundness, second part: rows as flat lists of cells; what is written into them. -/
namespace Go.Eng
theorem okCells_iff : ∀ {l : List AV} {X : Prop}, okCells l X → (∀ v ∈ l, okCell v = true) ∧ X
  | [], _, h => ⟨by simp, h⟩
  | v :: l, X, h => by
    unfold okCells at h
    split at h
    · rename_i hv
      have := okCells_iff h
      exact ⟨by simpa using ⟨hv, this.1⟩, this.2⟩
    · exact h.elim
theorem okCells_of : ∀ {l : List AV} {X : Prop}, (∀ v ∈ l, okCell v = true) → X → okCells l X
  | [], _, _, h => h
  | v :: l, X, h, hx => by
    unfold okCells
    simp only [h v (by simp)]
    exact okCells_of (fun u hu => h u (by simp [hu])) hx
theorem Dat.unf_fsl (d : Dat) : ∃ c sz bs n el, d.unf = .fsl c sz bs n el := by cases d <;> exact ⟨_, _, _, _, _, rfl⟩
theorem RepF_slice {w F c sz bs n el x} (h : RepF w F (.fsl c sz bs n el) x) : ∃ a m k, x = .slice a m k := by cases h <;> exact ⟨_, _, _, rfl⟩
theorem okCell_one {w : World} {μ : Id → Option Loc} {F : Nat → Prop} {av : AV} {v : Value} (ho : okCell av = true) (h : Rep w μ F av v) : v.oneCell' = true := by
  cases av <;> simp only [okCell] at ho
  case lit u =>
    obtain ⟨rfl, hp⟩ := Rep_lit h
    cases v <;> first | rfl | (simp [Plain] at hp; done) | (simp at ho; done)
  case top => cases h with | frz h => cases h with | top h => exact h
  case fsl => obtain ⟨a, m, k, rfl⟩ := RepF_slice (Rep_fsl h); rfl
  case fptr => have := Rep_fptr h; cases this; rfl
  case row => obtain ⟨l, _, h | h⟩ := Rep_row h; · obtain ⟨_, _, _, _, a, rfl⟩ := h; rfl
              · obtain ⟨_, _, _, _, _, _, _, _, _, rfl⟩ := h; rfl
  case ptr => obtain ⟨_, _, _, _, rfl⟩ := Rep_ptr h; rfl
  case clo => obtain ⟨_, _, rfl, _⟩ := Rep_clo h; rfl
  case ifc => obtain ⟨_, rfl, _⟩ := Rep_ifc h; rfl
  case agg => cases ho
  case tup => cases ho
  case mref => obtain ⟨_, _, _, _, rfl⟩ := Rep_mref h; rfl
  case lz d =>
    have h' := Rep_lz h
    obtain ⟨c, sz, bs, n, el, hd⟩ := d.unf_fsl
    rw [hd] at h'
    obtain ⟨a, m, k, rfl⟩ := RepF_slice h'; rfl
theorem cells_one {v : Value} (h : v.oneCell' = true) : v.cells = #[v] := by cases v <;> simp_all [Value.oneCell', Value.cells]
theorem All2.forall_right {α β : Type} {Q : α → β → Prop} {l : List α} {m : List β} (h : All2 Q l m) {p : α → Prop} {r : β → Prop} (hp : ∀ a ∈ l, p a) (f : ∀ a b, p a → Q a b → r b) : ∀ b ∈ m, r b := by
  induction h with
  | nil => simp
  | cons hq _ ih =>
    intro b hb
    cases hb with
    | head => exact f _ _ (hp _ (by simp)) hq
    | tail _ hb => exact ih (fun a ha => hp a (by simp [ha])) b hb
theorem cells_rep {w : World} {μ : Id → Option Loc} {F : Nat → Prop} {v : AV} {y : Value} (h : Rep w μ F v y) (ho : ∀ c ∈ cellsOf v, okCell c = true) :
    All2 (Rep w μ F) (cellsOf v) y.cells.toList ∧ ∀ u ∈ y.cells.toList, u.oneCell' = true := by
  have key : All2 (Rep w μ F) (cellsOf v) y.cells.toList := by
    by_cases ha : ∃ cs, v = .agg cs
    · obtain ⟨cs, rfl⟩ := ha
      obtain ⟨vs, rfl, h2⟩ := Rep_agg h
      exact h2
    · have hc : cellsOf v = [v] := by cases v <;> first | rfl | exact absurd ⟨_, rfl⟩ ha
      rw [hc] at ho ⊢
      rw [cells_one (okCell_one (ho v (by simp)) h)]
      exact .cons h .nil
  exact ⟨key, key.forall_right ho fun a b ha hq => okCell_one ha hq⟩
theorem All2.append {α β : Type} {Q : α → β → Prop} {l l' : List α} {m m' : List β} (h : All2 Q l m) (h' : All2 Q l' m') : All2 Q (l ++ l') (m ++ m') := by
  induction h with
  | nil => exact h'
  | cons hq _ ih => exact .cons hq ih
/-- A list of elements, all of one length, as a flat list. -/
theorem flatten_length {α : Type} {sz : Nat} : ∀ {es : List (List α)}, (∀ e ∈ es, e.length = sz) → es.flatten.length = es.length * sz
  | [], _ => by simp
  | e :: es, h => by
    have := flatten_length (es := es) (fun x hx => h x (by simp [hx]))
    simp only [List.flatten_cons, List.length_append, List.length_cons, this, h e (by simp)]
    rw [Nat.add_mul, Nat.one_mul, Nat.add_comm]
theorem flatten_get {α : Type} {sz : Nat} : ∀ {es : List (List α)}, (∀ e ∈ es, e.length = sz) → ∀ i j (hi : i < es.length), j < sz → es.flatten[i * sz + j]? = (es[i])[j]?
  | [], _, i, _, hi, _ => by simp at hi
  | e :: es, h, i, j, hi, hj => by
    have he := h e (by simp)
    cases i with
    | zero => simp [List.getElem?_append_left (show j < e.length by omega)]
    | succ i =>
      have := flatten_get (es := es) (fun x hx => h x (by simp [hx])) i j (by simpa using hi) hj
      rw [List.flatten_cons, List.getElem?_append_right (by rw [he, Nat.add_mul, Nat.one_mul]; omega)]
      rw [show (i + 1) * sz + j - e.length = i * sz + j by rw [he, Nat.add_mul, Nat.one_mul]; omega]
      simpa using this
theorem flatten_take {α : Type} {sz : Nat} : ∀ {es : List (List α)}, (∀ e ∈ es, e.length = sz) → ∀ p, (es.take p).flatten = es.flatten.take (p * sz)
  | [], _, p => by simp
  | e :: es, h, 0 => by simp
  | e :: es, h, p + 1 => by
    have he := h e (by simp)
    have := flatten_take (es := es) (fun x hx => h x (by simp [hx])) p
    simp only [List.take_succ_cons, List.flatten_cons, this]
    rw [List.take_append, show (p + 1) * sz - e.length = p * sz by rw [he, Nat.add_mul, Nat.one_mul]; omega, List.take_of_length_le (l := e) (by rw [he, Nat.add_mul, Nat.one_mul]; omega)]
theorem flatten_drop {α : Type} {sz : Nat} : ∀ {es : List (List α)}, (∀ e ∈ es, e.length = sz) → ∀ p, (es.drop p).flatten = es.flatten.drop (p * sz)
  | [], _, p => by simp
  | e :: es, h, 0 => by simp
  | e :: es, h, p + 1 => by
    have he := h e (by simp)
    have := flatten_drop (es := es) (fun x hx => h x (by simp [hx])) p
    simp only [List.drop_succ_cons, List.flatten_cons, this]
    rw [List.drop_append, show (p + 1) * sz - e.length = p * sz by rw [he, Nat.add_mul, Nat.one_mul]; omega, List.drop_of_length_le (l := e) (by rw [he, Nat.add_mul, Nat.one_mul]; omega), List.nil_append]
theorem set_eq_take {α : Type} (l : List α) (i : Nat) (x : α) (h : i < l.length) : l.set i x = l.take i ++ [x] ++ l.drop (i + 1) := by
  rw [List.set_eq_take_append_cons_drop, if_pos h]; simp
theorem flatten_set {α : Type} {sz : Nat} {es : List (List α)} (h : ∀ e ∈ es, e.length = sz) {i : Nat} (hi : i < es.length) (e' : List α) :
    (es.set i e').flatten = es.flatten.take (i * sz) ++ e' ++ es.flatten.drop (i * sz + sz) := by
  rw [set_eq_take _ _ _ hi, List.flatten_append, List.flatten_append, flatten_take h, flatten_drop h]
  simp [Nat.add_mul]
/-! ### Rows, flat -/
structure Flat (w : World) (μ : Id → Option Loc) (F : Nat → Prop) (l : Loc) (sz : Nat) (es : List (List AV)) (c : Array Value) (vs : List Value) : Prop where
  len : ∀ e ∈ es, e.length = sz
  rep : All2 (Rep w μ F) es.flatten vs
  one : ∀ u ∈ vs, u.oneCell' = true
  at_ : ∀ k v, vs[k]? = some v → c[l.base + k]? = some v
theorem CellsRep.flat {w μ F l sz bs es b} (h : CellsRep w μ F l sz bs es b) :
    ∃ (c : Array Value) (e : TypeId) (lo hi : Nat) (vs : List Value), w.heap[b]? = some (.cells c e (lo, hi)) ∧ l.base + l.cap * sz ≤ c.size ∧ (∀ o, o < c.size → lo ≤ o → o < hi → False) ∧ Flat w μ F l sz es c vs := by
  obtain ⟨c, e, lo, hi, h1, h2, h3, h4⟩ := h.h
  have hlen : ∀ x ∈ es, x.length = sz := fun x hx => by
    obtain ⟨i, hi, rfl⟩ := List.getElem_of_mem hx
    exact (h4 i hi).1
  have hfl := flatten_length hlen
  have key : ∀ k (hk : k < es.flatten.length), ∃ v : Value, v.oneCell' = true ∧ c[l.base + k]? = some v ∧ Rep w μ F es.flatten[k] v := by
    intro k hk
    rw [hfl] at hk
    by_cases hz : sz = 0
    · subst hz; simp at hk
    have hi : k / sz < es.length := by rw [Nat.div_lt_iff_lt_mul (by omega)]; exact hk
    have hj : k % sz < sz := Nat.mod_lt _ (by omega)
    have hkk : k / sz * sz + k % sz = k := by rw [Nat.mul_comm]; exact Nat.div_add_mod k sz
    have hlj := (h4 _ hi).1
    obtain ⟨v, a1, a2, a3⟩ := (h4 _ hi).2 (k % sz) (by omega)
    refine ⟨v, a1, by rw [show l.base + k = l.base + k / sz * sz + k % sz by omega]; exact a2, ?_⟩
    have := flatten_get hlen _ _ hi hj
    rw [hkk, List.getElem?_eq_getElem (by rw [hfl]; exact hk), List.getElem?_eq_getElem (by omega)] at this
    rw [Option.some.inj this]; exact a3
  refine ⟨c, e, lo, hi, (List.range es.flatten.length).map fun k => (c[l.base + k]?).getD undef, h1, h2, h3, hlen, ?_, ?_, ?_⟩
  · refine .of_get (by simp) fun k hk hk' => ?_
    obtain ⟨v, _, a2, a3⟩ := key k hk
    simp only [List.getElem_map, List.getElem_range, a2, Option.getD_some]; exact a3
  · intro u hu
    simp only [List.mem_map, List.mem_range] at hu
    obtain ⟨k, hk, rfl⟩ := hu
    obtain ⟨v, a1, a2, _⟩ := key k hk
    simp only [a2, Option.getD_some]; exact a1
  · intro k v hv
    obtain ⟨hk, hv⟩ := List.getElem?_eq_some_iff.1 hv
    simp only [List.length_map, List.length_range] at hk
    obtain ⟨u, a1, a2, _⟩ := key k hk
    simp only [List.getElem_map, List.getElem_range, a2, Option.getD_some] at hv
    rw [← hv]; exact a2
theorem CellsRep.of_flat {w μ F l sz bs es b} {c : Array Value} {e : TypeId} {lo hi : Nat} {vs : List Value} (h1 : w.heap[b]? = some (.cells c e (lo, hi))) (h2 : l.base + l.cap * sz ≤ c.size) (h3 : ∀ o, o < c.size → lo ≤ o → o < hi → False)
    (hf : Flat w μ F l sz es c vs) : CellsRep w μ F l sz bs es b := by
  refine ⟨c, e, lo, hi, h1, h2, h3, fun i hi => ?_⟩
  have hl := hf.len _ (List.getElem_mem hi)
  refine ⟨hl, fun j hj => ?_⟩
  have hg := flatten_get hf.len i j hi (by omega)
  rw [List.getElem?_eq_getElem hj] at hg
  obtain ⟨hk, hg⟩ := List.getElem?_eq_some_iff.1 hg
  have hk' : i * sz + j < vs.length := by rw [← hf.rep.length]; exact hk
  refine ⟨vs[i * sz + j], hf.one _ (List.getElem_mem _), ?_, ?_⟩
  · rw [Nat.add_assoc]; exact hf.at_ _ _ (List.getElem?_eq_getElem hk')
  · have := hf.rep.get _ hk hk'
    rw [hg] at this; exact this
/-! ### Cells written one behind another -/
def writeAt (c : Array Value) : Nat → List Value → Array Value
  | _, [] => c
  | o, v :: vs => writeAt (c.setIfInBounds o v) (o + 1) vs
theorem writeAt_size : ∀ (vs : List Value) (c : Array Value) (o : Nat), (writeAt c o vs).size = c.size
  | [], _, _ => rfl
  | v :: vs, c, o => by simp [writeAt, writeAt_size vs]
theorem writeAt_get : ∀ (vs : List Value) (c : Array Value) (o k : Nat), o + vs.length ≤ c.size → (writeAt c o vs)[k]? = if o ≤ k ∧ k < o + vs.length then vs[k - o]? else c[k]?
  | [], c, o, k, _ => by simp [writeAt]; omega
  | v :: vs, c, o, k, h => by
    have hl : (v :: vs).length = vs.length + 1 := rfl
    have ih := writeAt_get vs (c.setIfInBounds o v) (o + 1) k (by simp at h ⊢; omega)
    simp only [writeAt, ih]
    by_cases h1 : o + 1 ≤ k ∧ k < o + 1 + vs.length
    · rw [if_pos h1, if_pos (by omega)]
      rw [show k - o = (k - (o + 1)) + 1 by omega]; simp
    · rw [if_neg h1]
      by_cases h2 : k = o
      · subst h2
        have hk : k < c.size := by rw [hl] at h; omega
        rw [if_pos (by omega)]
        simp [hk]
      · rw [if_neg (by omega), Array.getElem?_setIfInBounds_ne (by omega)]
theorem setCells_block : ∀ (vs : List Value) (w : World) (b o : Nat) (c : Array Value) (e : TypeId) (fz : Nat × Nat), w.heap[b]? = some (.cells c e fz) → (w.setCells b o vs).heap[b]? = some (.cells (writeAt c o vs) e fz)
  | [], _, _, _, _, _, _, h => h
  | v :: vs, w, b, o, c, e, fz, h => by
    simp only [World.setCells, writeAt]
    refine setCells_block vs _ b (o + 1) _ e fz ?_
    simp [World.setCell, Array.getElem?_modify, h]
theorem setCells_other : ∀ (vs : List Value) (w : World) (b o : Nat) (k : Nat), k ≠ b → (w.setCells b o vs).heap[k]? = w.heap[k]?
  | [], _, _, _, _, _ => rfl
  | v :: vs, w, b, o, k, h => by
    simp only [World.setCells]
    rw [setCells_other vs _ b (o + 1) k h]
    simp only [World.setCell, Array.getElem?_modify]
    rw [if_neg (by omega)]
theorem setCells_size : ∀ (vs : List Value) (w : World) (b o : Nat), (w.setCells b o vs).heap.size = w.heap.size
  | [], _, _, _ => rfl
  | v :: vs, w, b, o => by simp only [World.setCells]; rw [setCells_size vs]; simp [World.setCell]
theorem setCells_rest : ∀ (vs : List Value) (w : World) (b o : Nat), (w.setCells b o vs).os = w.os ∧ (w.setCells b o vs).tape = w.tape ∧ (w.setCells b o vs).output = w.output
  | [], _, _, _ => ⟨rfl, rfl, rfl⟩
  | v :: vs, w, b, o => by simp only [World.setCells]; exact setCells_rest vs _ b (o + 1)
section
variable {cx : Cx} {w : World} {μ : Id → Option Loc} {F : Nat → Prop} {H : HH}
/-- Cells vs, which stand for cs, are written at flat place o of a row. -/
theorem HRep.writeFlat (h : HRep w μ F H) (hg : GOK cx w F) {r : Id} {sz bs : Nat} {es es' : List (List AV)} {l : Loc} {b o : Nat} {cs : List AV} {vs : List Value} (hr : H r = some (.cells sz bs es)) (hl : μ r = some l) (hb : l.b = some b)
    (hcs : All2 (Rep w μ F) cs vs) (h1 : ∀ u ∈ vs, u.oneCell' = true) (ho : o + cs.length ≤ es.flatten.length)
    (hes : es'.flatten = es.flatten.take o ++ cs ++ es.flatten.drop (o + cs.length)) (hlen : es'.length = es.length) (hel : ∀ e ∈ es', e.length = sz) :
    (∀ P, (storeCells ⟨b, l.base + o, none⟩ vs).run P w = .ok () (w.setCells b (l.base + o) vs)) ∧
    HRep (w.setCells b (l.base + o) vs) μ F (H.put r (.cells sz bs es')) ∧ GOK cx (w.setCells b (l.base + o) vs) F ∧ Fr w μ F H (w.setCells b (l.base + o) vs) μ F (H.put r (.cells sz bs es')) := by
  obtain ⟨l', hl', hrow⟩ := h.rows r _ hr
  obtain rfl := Option.some.inj (hl'.symm.trans hl)
  obtain ⟨a1, a2, a3, a4, a5⟩ := hrow
  rw [hb] at a5
  obtain ⟨c, e, lo, hi, us, g1, g2, g3, gf⟩ := a5.flat
  have hfl := flatten_length gf.len
  have hul : us.length = es.length * sz := by rw [← gf.rep.length, hfl]
  have hvl := hcs.length
  have hcap : es.length * sz ≤ l'.cap * sz := Nat.mul_le_mul_right _ a3
  have hsz : l'.base + o + vs.length ≤ c.size := by omega
  have hst : ∀ P, (storeCells ⟨b, l'.base + o, none⟩ vs).run P w = .ok () (w.setCells b (l'.base + o) vs) := fun P => by
    have := run_storeCells_cells (P := P) b (l'.base + o) vs 0 w (fun j hj => by
        simp only [World.cell?, g1, Nat.add_zero]
        rw [Array.getElem?_eq_getElem (by omega)]; rfl)
      (fun j hj => by
        simp only [World.frozen?, g1, Nat.add_zero]
        have := g3 (l'.base + o + j) (by omega)
        cases hd : (decide (lo ≤ l'.base + o + j) && decide (l'.base + o + j < hi))
        · rfl
        · simp only [Bool.and_eq_true, decide_eq_true_eq] at hd; exact (this hd.1 hd.2).elim) h1
    simpa using this
  have hblk := setCells_block vs w b (l'.base + o) c e (lo, hi) g1
  have hF : ∀ b', F b' → b' ≠ b := fun b' hb' e => h.disj r _ l' b hr rfl hl hb (e ▸ hb')
  have hoth : ∀ b', some b' ≠ l'.b → (w.setCells b (l'.base + o) vs).heap[b']? = w.heap[b']? := fun b' hb' => setCells_other vs w b _ b' (fun e => hb' (by rw [e, hb]))
  have hk : ∀ b', F b' → (w.setCells b (l'.base + o) vs).heap[b']? = w.heap[b']? := fun b' hb' => setCells_other vs w b _ b' (hF b' hb')
  have hm : ∀ {av v}, Rep w μ F av v → Rep (w.setCells b (l'.base + o) vs) μ F av v := fun hh => hh.mono hk (fun _ h => h) (fun _ _ h => h)
  have hrow' : RowRep (w.setCells b (l'.base + o) vs) μ F l' (.cells sz bs es') := by
    refine ⟨a1, a2, by omega, by rw [hlen]; exact a4, ?_⟩
    rw [hb]
    refine CellsRep.of_flat (vs := us.take o ++ vs ++ us.drop (o + vs.length)) hblk (by rw [writeAt_size]; exact g2) (by rw [writeAt_size]; exact g3) ⟨hel, ?_, ?_, ?_⟩
    · rw [hes]
      have hh := gf.rep.mono (fun _ _ h => hm h)
      exact ((hh.take o).append (hcs.mono fun _ _ h => hm h)).append (by rw [← hvl]; exact hh.drop _)
    · intro u hu
      simp only [List.mem_append] at hu
      rcases hu with (hu | hu) | hu
      · exact gf.one _ (List.mem_of_mem_take hu)
      · exact h1 _ hu
      · exact gf.one _ (List.mem_of_mem_drop hu)
    · intro k v hv
      rw [writeAt_get _ _ _ _ hsz]
      by_cases h2 : k < o
      · rw [if_neg (by omega)]
        rw [List.append_assoc, List.getElem?_append_left (by simp; omega), List.getElem?_take, if_pos h2] at hv
        exact gf.at_ _ _ hv
      · by_cases h3 : k < o + vs.length
        · rw [if_pos (by omega)]
          rw [List.append_assoc, List.getElem?_append_right (by simp; omega), List.getElem?_append_left (by simp; omega)] at hv
          simp only [List.length_take] at hv
          rw [← hv]; congr 1; omega
        · rw [if_neg (by omega)]
          rw [List.getElem?_append_right (by simp; omega), List.getElem?_drop] at hv
          refine gf.at_ _ _ ?_
          rw [← hv]; congr 1
          simp only [List.length_append, List.length_take]; omega
  exact ⟨hst, h.write hr rfl hl (setCells_size _ _ _ _) hoth hrow', hg.mono hk (fun _ h => h), Fr.write hr rfl hl (setCells_rest _ _ _ _).1 (setCells_rest _ _ _ _).2.1 (setCells_rest _ _ _ _).2.2 (setCells_size _ _ _ _) hoth⟩
theorem updHead_iff : ∀ {vs e} {k : List AV → Prop}, updHead vs e k → vs.length ≤ e.length ∧ k (vs ++ e.drop vs.length)
  | [], e, k, h => ⟨by simp, by simpa [updHead] using h⟩
  | v :: vs, c :: e, k, h => by
    have := updHead_iff (vs := vs) (e := e) (k := fun l => k (v :: l)) h
    exact ⟨by simp; omega, by simpa using this.2⟩
  | _ :: _, [], k, h => by simp [updHead] at h
theorem updN_iff : ∀ {j vs e} {k : List AV → Prop}, updN j vs e k → j + vs.length ≤ e.length ∧ k (e.take j ++ vs ++ e.drop (j + vs.length))
  | 0, vs, e, k, h => by
    have := updHead_iff (show updHead vs e k from by simpa [updN] using h)
    exact ⟨by omega, by simpa using this.2⟩
  | j + 1, vs, c :: e, k, h => by
    have := updN_iff (j := j) (vs := vs) (e := e) (k := fun l => k (c :: l)) h
    refine ⟨by simp; omega, ?_⟩
    have h2 := this.2
    rw [show j + 1 + vs.length = (j + vs.length) + 1 by omega]
    simpa using h2
  | _ + 1, _, [], k, h => by simp [updN] at h
theorem storeK_sound (ok : CxOK cx) (h : HRep w μ F H) (hg : GOK cx w F) {t : TypeId} {n : Nat} {d bs0 z} (ht : cx.ty t = some ⟨d, n, bs0, z⟩) {p v : AV} {K : HH → Prop} (hn : (cellsOf v).length = n) (hk : storeK H v K p) {x y : Value} (hp : Rep w μ F p x) (hv : Rep w μ F v y) :
    ∃ w' H', (Instr.storeAt t x y).run cx.P w = .ok () w' ∧ K H' ∧ HRep w' μ F H' ∧ GOK cx w' F ∧ Fr w μ F H w' μ F H' := by
  cases p <;> simp only [storeK] at hk
  rename_i r i j
  obtain ⟨l, b, h1, h2, rfl⟩ := Rep_ptr hp
  split at hk
  rotate_left
  · exact hk.elim
  rename_i sz bs es hr
  obtain ⟨hok, hk⟩ := okCells_iff hk
  unfold nthK at hk
  split at hk
  rotate_left
  · exact hk.elim
  rename_i e he
  obtain ⟨hi, rfl⟩ := List.getElem?_eq_some_iff.1 he
  obtain ⟨hle, hk⟩ := updN_iff hk
  have hk : K (H.put r (.cells sz bs (es.set i (es[i].take j ++ cellsOf v ++ es[i].drop (j + (cellsOf v).length))))) := by
    clear he hok hr
    match es, hi, hk with
    | [x], hi, hk =>
      obtain rfl : i = 0 := by simp at hi; omega
      exact hk
    | [], hi, _ => simp at hi
    | x :: y :: es, hi, hk => exact hk
  obtain ⟨hrep, hone⟩ := cells_rep hv hok
  obtain ⟨_, hel, hls⟩ := h.elem hr he h1 h2
  obtain ⟨l', hl', hrow⟩ := h.rows r _ hr
  obtain rfl := Option.some.inj (hl'.symm.trans h1)
  have hlen : ∀ e ∈ es, e.length = sz := by
    obtain ⟨_, _, _, _, a5⟩ := hrow
    rw [h2] at a5
    obtain ⟨_, _, _, _, _, _, _, _, gf⟩ := a5.flat
    exact gf.len
  have hfl := flatten_length hlen
  have hmul : i * sz + sz ≤ es.length * sz := by
    have := Nat.mul_le_mul_right sz (show i + 1 ≤ es.length by omega)
    rw [Nat.add_mul, Nat.one_mul] at this; exact this
  have hei : es[i] = (es.flatten.drop (i * sz)).take sz := by
    apply List.ext_getElem?
    intro k
    rw [List.getElem?_take]
    split
    · rename_i hk'
      rw [List.getElem?_drop, flatten_get hlen i k hi hk']
    · rw [List.getElem?_eq_none (by omega)]
  have hle' : j + (cellsOf v).length ≤ sz := by rw [hel] at hle; exact hle
  have key := h.writeFlat hg (es' := es.set i (es[i].take j ++ cellsOf v ++ es[i].drop (j + (cellsOf v).length))) (o := i * sz + j) hr h1 h2 hrep hone (by rw [hfl]; omega)
    (by
      rw [flatten_set hlen hi, hei]
      clear hle hel hei
      have hA : (es.flatten.take (i * sz)).length = i * sz := by rw [List.length_take, hfl]; omega
      rw [List.take_take, Nat.min_eq_left (by omega)]
      rw [List.drop_take, List.drop_drop]
      have e1 : List.take (i * sz) es.flatten ++ List.take j (List.drop (i * sz) es.flatten) = List.take (i * sz + j) es.flatten := by rw [List.take_add]
      have e2 : List.take (sz - (j + (cellsOf v).length)) (List.drop (i * sz + (j + (cellsOf v).length)) es.flatten) ++ List.drop (i * sz + sz) es.flatten = List.drop (i * sz + j + (cellsOf v).length) es.flatten := by
        have e3 : List.drop (i * sz + sz) es.flatten = List.drop (sz - (j + (cellsOf v).length)) (List.drop (i * sz + (j + (cellsOf v).length)) es.flatten) := by
          rw [List.drop_drop]; congr 1; omega
        rw [e3, List.take_append_drop]
        congr 1; omega
      rw [← e2, ← e1]
      simp only [List.append_assoc])
    (by simp) (by
      intro e he
      rcases List.mem_or_eq_of_mem_set he with he | rfl
      · exact hlen e he
      · simp only [List.length_append, List.length_take, List.length_drop]; omega)
  obtain ⟨k1, k2, k3, k4⟩ := key
  refine ⟨_, _, ?_, hk, k2, k3, k4⟩
  obtain ⟨ii, dd, zz, t1, t2, t3, _⟩ := (ok.ty t _ ht).ok
  have hcl : y.cells.size = n := by rw [← hn, hrep.length]; simp
  have := k1 cx.P
  rw [← Nat.add_assoc] at this
  rw [hls]
  simp only [Instr.storeAt, Instr.sureAddr, Sem.run_bind, Sem.run_pure, Result.andThen_ok, storeVar, sizeOf, typeInfo, run_program, t1, t3, hcl, ne_eq, not_true_eq_false, if_false, this]
  rw [Nat.add_assoc]
end
end Go.Eng
/- Soundness, third part: what is laid anew; append, copy. -/
namespace Go.Eng
/-- What a slice or a string hands over. -/
structure Cont (w : World) (μ : Id → Option Loc) (F : Nat → Prop) (sz : Nat) (v : Value) (m : Nat) (xs : List (List AV)) (news : List Value) : Prop where
  len : xs.length = m
  el : ∀ e ∈ xs, e.length = sz
  rep : All2 (Rep w μ F) xs.flatten news
  one : ∀ u ∈ news, u.oneCell' = true
  lenOf : ∀ P w', (Builtin.lenOf v).run P w' = .ok m w'
  first : ∀ P w' n, w'.heap = w.heap → n ≤ m → (Builtin.firstCells sz n v).run P w' = .ok (news.take (n * sz)).toArray w'
  kind : (∃ a k, v = .slice a m k) ∨ ∃ s, v = .string s
theorem Cont.newsLen {w μ F sz v m xs news} (h : Cont w μ F sz v m xs news) : news.length = m * sz := by
  rw [← h.rep.length, flatten_length h.el, h.len]
theorem loadCells_heap {P : Program} {w : World} {b o n : Nat} {vs : List Value} (h : ∀ k v, vs[k]? = some v → w.cell? ⟨b, o + k, none⟩ = some v) (hn : n ≤ vs.length) :
    (loadCells ⟨b, o, none⟩ n).run P w = .ok (vs.take n).toArray w := by
  have := run_loadCells_list (P := P) w ⟨b, o, none⟩ (vs.take n) (fun j v hv => by
    rw [Addr.add_mid]
    rw [List.getElem?_take] at hv
    split at hv
    · exact h j v hv
    · cases hv)
  rwa [List.length_take, Nat.min_eq_left hn] at this
theorem cell?_heap {w w' : World} (h : w'.heap = w.heap) (a : Addr) : w'.cell? a = w.cell? a := by simp [World.cell?, h]
section
variable {cx : Cx} {w : World} {μ : Id → Option Loc} {F : Nat → Prop} {H : HH}
theorem Cont.nil (w : World) (μ : Id → Option Loc) (F : Nat → Prop) (sz : Nat) (a : Option Addr) (k : Nat) : Cont w μ F sz (.slice a 0 k) 0 [] [] where
  len := rfl
  el := by simp
  rep := .nil
  one := by simp
  lenOf := fun _ _ => rfl
  first := fun P w' n _ hn => by
    obtain rfl : n = 0 := by omega
    cases a with
    | none => simp [Builtin.firstCells]
    | some a =>
      have := run_loadCells_list (P := P) w' a [] (by simp)
      simpa [Builtin.firstCells] using this
  kind := .inl ⟨_, _, rfl⟩
/-- A part of a live row. -/
theorem HRep.cont (h : HRep w μ F H) {r : Id} {sz bs : Nat} {es : List (List AV)} (hr : H r = some (.cells sz bs es)) {o n : Nat} {c : Option Nat} {v : Value} (hv : Rep w μ F (.row r o n c) v) (hle : o + n ≤ es.length) :
    ∃ news, Cont w μ F sz v n ((es.drop o).take n) news := by
  obtain ⟨l, hl, hh⟩ := Rep_row hv
  obtain ⟨l', hl', hrow⟩ := h.rows r _ hr
  obtain rfl := Option.some.inj (hl'.symm.trans hl)
  obtain ⟨a1, a2, a3, a4, a5⟩ := hrow
  rcases hh with ⟨hb, rfl, rfl, _, a, rfl⟩ | ⟨b, a, k, hb, hab, ha, hnk, hc1, hc2, rfl⟩
  · rw [hb] at a5
    obtain ⟨rfl, _⟩ := a5
    exact ⟨[], by simpa using Cont.nil w μ F sz a 0⟩
  · by_cases hk : n = 0
    · subst hk
      exact ⟨[], by simpa using Cont.nil w μ F sz (some a) k⟩
    · obtain rfl := ha.resolve_left (by omega)
      rw [hb] at a5
      obtain ⟨cc, e, lo, hi, us, g1, g2, g3, gf⟩ := a5.flat
      have hfl := flatten_length gf.len
      have hul : us.length = es.length * sz := by rw [← gf.rep.length, hfl]
      have hm : (o + n) * sz ≤ es.length * sz := Nat.mul_le_mul_right _ hle
      rw [Nat.add_mul] at hm
      refine ⟨(us.drop (o * sz)).take (n * sz), ⟨by simp; omega, fun e he => gf.len e (List.mem_of_mem_drop (List.mem_of_mem_take he)), ?_, ?_, fun _ _ => rfl, ?_, .inl ⟨_, _, rfl⟩⟩⟩
      · rw [flatten_take (fun e he => gf.len e (List.mem_of_mem_drop he)), flatten_drop gf.len]
        exact (gf.rep.drop _).take _
      · intro u hu
        exact gf.one u (List.mem_of_mem_drop (List.mem_of_mem_take hu))
      · intro P w' q hw hq
        have hq' : q * sz ≤ n * sz := Nat.mul_le_mul_right _ hq
        rw [List.take_take, Nat.min_eq_left hq']
        simp only [Builtin.firstCells]
        rw [a1]
        refine loadCells_heap (fun k u hu => ?_) (by simp; omega)
        rw [cell?_heap hw]
        rw [List.getElem?_drop] at hu
        have := gf.at_ _ _ hu
        simp only [World.cell?, g1]
        rw [show l'.base + o * sz + k = l'.base + (o * sz + k) by omega]
        simpa using this
theorem fsl_cont {c sz bs n el v} (h : RepF w F (.fsl c sz bs n el) v) : ∃ news, Cont w μ F sz v n ((List.range n).map el) news := by
  cases h with
  | fsE h => exact ⟨[], by simpa using Cont.nil w μ F sz _ _⟩
  | fs vs hn hF hc hk hR hl hv hr =>
    rename_i b o k
    have hel : ∀ e ∈ (List.range n).map el, e.length = sz := by
      intro e he
      simp only [List.mem_map, List.mem_range] at he
      obtain ⟨i, hi, rfl⟩ := he
      exact hl i hi
    have hfl := flatten_length hel
    simp only [List.length_map, List.length_range] at hfl
    have hdm : ∀ q, q < n * sz → q / sz < n ∧ q % sz < sz ∧ q / sz * sz + q % sz = q := by
      intro q hq
      by_cases hz : sz = 0
      · subst hz; simp at hq
      exact ⟨by rw [Nat.div_lt_iff_lt_mul (by omega)]; exact hq, Nat.mod_lt _ (by omega), by rw [Nat.mul_comm]; exact Nat.div_add_mod q sz⟩
    have hrep : All2 (Rep w μ F) ((List.range n).map el).flatten ((List.range (n * sz)).map fun q => vs (q / sz) (q % sz)) := by
      refine .of_get (by simp [hfl]) fun q hq hq' => ?_
      rw [hfl] at hq
      obtain ⟨d1, d2, d3⟩ := hdm q hq
      have := flatten_get hel (q / sz) (q % sz) (by simpa using d1) d2
      rw [d3, List.getElem?_eq_getElem (by rw [hfl]; exact hq)] at this
      simp only [List.getElem_map, List.getElem_range] at this ⊢
      rw [List.getElem?_eq_getElem (by rw [hl _ d1]; exact d2)] at this
      rw [Option.some.inj this]
      exact .frz (hr _ _ d1 _)
    refine ⟨_, ⟨by simp, hel, hrep, ?_, fun _ _ => rfl, ?_, .inl ⟨_, _, rfl⟩⟩⟩
    · intro u hu
      simp only [List.mem_map, List.mem_range] at hu
      obtain ⟨q, hq, rfl⟩ := hu
      obtain ⟨d1, d2, _⟩ := hdm q hq
      exact (hv _ _ d1 d2).2
    · intro P w' q hw hq
      have hq' : q * sz ≤ n * sz := Nat.mul_le_mul_right _ hq
      simp only [Builtin.firstCells]
      refine loadCells_heap (fun j u hu => ?_) (by simpa using hq')
      rw [cell?_heap hw]
      obtain ⟨hj, hu⟩ := List.getElem?_eq_some_iff.1 hu
      simp only [List.length_map, List.length_range] at hj
      simp only [List.getElem_map, List.getElem_range] at hu
      subst hu
      obtain ⟨d1, d2, d3⟩ := hdm j hj
      have := (hv _ _ d1 d2).1
      rw [show o + j = o + j / sz * sz + j % sz by omega]
      exact this
end
end Go.Eng

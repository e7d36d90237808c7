/- Eng03: an engine for the program's code, and walks of its functions (H I J). -/
import Derived.Test.YtlcepambcoobgaaGreatDoorEng02
import Derived.Laws.MakeOwn
/- Soundness, fourth part: append. -/
namespace Go.Eng
section
variable {cx : Cx} {w : World} {μ : Id → Option Loc} {F : Nat → Prop} {H : HH}
theorem bytes_flatten (l : List UInt8) : (l.map fun b => [AV.lit (.int .u8 b.toNat)]).flatten = l.map fun b => AV.lit (.int .u8 b.toNat) := by
  induction l with
  | nil => rfl
  | cons b l ih => simp only [List.map_cons, List.flatten_cons, ih]; rfl
theorem bytes_len (s : ByteArray) : s.data.toList.length = s.size := by simp
theorem bytes_cont (s : ByteArray) : Cont w μ F 1 (.string s) s.size (s.data.toList.map fun b => [AV.lit (.int .u8 b.toNat)]) (byteCells s) where
  len := by rw [List.length_map, bytes_len]
  el := by simp
  rep := by
    rw [bytes_flatten]
    refine .of_get (by simp only [byteCells, List.length_map]) fun i h1 h2 => ?_
    simp only [List.getElem_map, byteCells]
    exact .frz (.lit (show Plain (.int _ _) from trivial))
  one := fun u hu => by
    simp only [byteCells, List.mem_map] at hu
    obtain ⟨_, _, rfl⟩ := hu; rfl
  lenOf := fun _ _ => rfl
  first := fun P w' n _ hn => by
    simp only [Builtin.firstCells, Nat.mul_one, Sem.run_pure]
    congr 1
    apply Array.ext'
    simp only [byteCells, Array.toList_map, ByteArray.data_extract, Array.toList_extract, List.extract_eq_take_drop, List.drop_zero, Nat.sub_zero]
    rw [List.map_take]
  kind := .inr ⟨s, rfl⟩
theorem contentK_sound (h : HRep w μ F H) {sz : Nat} {k : Nat → List (List AV) → Prop} {x : AV} (hk : contentK H sz k x) {v : Value} (hv : Rep w μ F x v) :
    ∃ m xs news, k m xs ∧ Cont w μ F sz v m xs news := by
  cases x <;> simp only [contentK] at hk
  case row r o n c =>
    split at hk
    rotate_left
    · exact hk.elim
    rename_i sz' bs es hr
    split at hk
    rotate_left
    · exact hk.elim
    rename_i hb
    obtain rfl := Nat.eq_of_beq_eq_true hb
    have key : (o + n ≤ es.length ∧ k n ((es.drop o).take n)) → ∃ m xs news, k m xs ∧ Cont w μ F sz v m xs news := fun ⟨h1, h2⟩ => by
      obtain ⟨news, hc⟩ := h.cont hr hv h1
      exact ⟨_, _, news, h2, hc⟩
    split at hk
    · exact key ⟨by simp, by simpa using hk⟩
    · exact key hk
  case fsl c sz' bs n el =>
    have hf := Rep_fsl hv
    split at hk
    · cases hf with
      | fsE _ => exact ⟨0, [], [], hk, Cont.nil w μ F sz _ _⟩
      | fs _ hn => omega
    · split at hk
      · rename_i hb
        obtain rfl := Nat.eq_of_beq_eq_true hb
        obtain ⟨news, hc⟩ := fsl_cont (μ := μ) hf
        exact ⟨_, _, news, hk, hc⟩
      · exact hk.elim
  case lz d =>
    have hf := Rep_lz hv
    split at hk
    rotate_left
    · exact hk.elim
    rename_i hd
    rw [hd] at hf
    split at hk
    rotate_left
    · exact hk.elim
    rename_i hb
    obtain rfl := Nat.eq_of_beq_eq_true hb
    obtain ⟨news, hc⟩ := fsl_cont (μ := μ) hf
    exact ⟨_, _, news, hk, hc⟩
  case lit u =>
    obtain ⟨rfl, _⟩ := Rep_lit hv
    cases v <;> simp only at hk
    rename_i s _
    split at hk
    · exact ⟨_, _, _, hk, bytes_cont s⟩
    · exact hk.elim
/-- The result of an operation that yields a value. -/
def Yields (cx : Cx) (w : World) (μ : Id → Option Loc) (F : Nat → Prop) (H : HH) (s : Sem Value) (K : AV → HH → Prop) : Prop :=
  ∃ v w' av H' μ' F', s.run cx.P w = .ok v w' ∧ K av H' ∧ Rep w' μ' F' av v ∧ HRep w' μ' F' H' ∧ GOK cx w' F' ∧ Fr w μ F H w' μ' F' H'
theorem Yields.same (h : HRep w μ F H) (hg : GOK cx w F) {s : Sem Value} {K : AV → HH → Prop} {v : Value} {av : AV} (hr : s.run cx.P w = .ok v w) (hk : K av H) (hv : Rep w μ F av v) : Yields cx w μ F H s K :=
  ⟨v, w, av, H, μ, F, hr, hk, hv, h, hg, .refl ..⟩
theorem fresh_iff {H : HH} {id : Id} {X : Prop} (h : fresh H id X) : H id = none ∧ X := by
  unfold fresh at h
  split at h
  · exact ⟨‹_›, h⟩
  · exact h.elim
theorem HH.put_kill_ne {H : HH} {r id : Id} (hr : H r ≠ none) (hid : H id = none) : (H.put r .dead) id = none := by
  rw [HH.put_ne]; · exact hid
  · intro e; subst e; exact hr hid
/-- A new block is laid for a row, after a draw or not. -/
theorem HRep.layNew (h : HRep w μ F H) (hg : GOK cx w F) {id : Id} (hid : H id = none) {sz bs : Nat} {es : List (List AV)} {c : Array Value} {e : TypeId} {fz : Nat × Nat} {cap : Nat} {vs : List Value} {w1 w' : World} (hw1 : w1.heap = w.heap) (h1 : w1.os = w.os) (h2 : w1.tape = w.tape) (h3 : w1.output = w.output)
    (hw : w' = { w1 with heap := w1.heap.push (.cells c e fz) }) (hcap : es.length ≤ cap) (hbs : es.length * bs ≤ R) (hc : cap * sz ≤ c.size) (hfz : ∀ o, o < c.size → fz.1 ≤ o → o < fz.2 → False)
    (hel : ∀ e ∈ es, e.length = sz) (hrep : All2 (Rep w μ F) es.flatten vs) (hone : ∀ u ∈ vs, u.oneCell' = true) (hat : ∀ (k : Nat) v, vs[k]? = some v → c[k]? = some v) :
    HRep w' (mput μ id ⟨some w.heap.size, 0, sz, bs, cap⟩) F (H.put id (.cells sz bs es)) ∧ GOK cx w' F ∧ Fr w μ F H w' (mput μ id ⟨some w.heap.size, 0, sz, bs, cap⟩) F (H.put id (.cells sz bs es)) := by
  have hold : ∀ b, b < w.heap.size → w'.heap[b]? = w.heap[b]? := fun b hb => by subst hw; show (w1.heap.push _)[b]? = _; rw [hw1, Array.getElem?_push, if_neg (by omega)]
  have hs : w.heap.size < w'.heap.size := by subst hw; simp [hw1]
  have hnew : w'.heap[w.heap.size]? = some (.cells c e fz) := by subst hw; show (w1.heap.push _)[_]? = _; rw [hw1]; simp
  have hk : ∀ b, F b → w'.heap[b]? = w.heap[b]? := fun b hb => hold b (h.lt b hb)
  refine ⟨h.lay hid hs hold rfl ⟨rfl, rfl, hcap, hbs, ?_⟩, hg.mono hk (fun _ h => h), Fr.lay h hid (by subst hw; exact h1) (by subst hw; exact h2) (by subst hw; exact h3) hs hold rfl⟩
  refine CellsRep.of_flat (vs := vs) hnew (by simpa using hc) hfz ⟨hel, hrep.mono fun a b hh => hh.mono hk (fun _ h => h) (mput_keep _ (h.dom id hid)), hone, fun k v hv => by simpa using hat k v hv⟩
/-- A new block that nobody will write. -/
theorem HRep.layFrz (h : HRep w μ F H) (hg : GOK cx w F) {sz bs : Nat} {es : List (List AV)} {c : Array Value} {e : TypeId} {fz : Nat × Nat} {cap : Nat} {vs : List Value} {w1 w' : World} (hw1 : w1.heap = w.heap) (h1 : w1.os = w.os) (h2 : w1.tape = w.tape) (h3 : w1.output = w.output)
    (hw : w' = { w1 with heap := w1.heap.push (.cells c e fz) }) (hcap : es.length ≤ cap) (hbs : es.length * bs ≤ R) (hc : cap * sz ≤ c.size) (hfz : ∀ o, o < c.size → fz.1 ≤ o → o < fz.2 → False)
    (hel : ∀ e ∈ es, e.length = sz) (hrep : All2 (Rep w μ F) es.flatten vs) (hone : ∀ u ∈ vs, u.oneCell' = true) (hat : ∀ (k : Nat) v, vs[k]? = some v → c[k]? = some v) (hidf : ∀ e ∈ es, idfL e = true) {n : Nat} (hn : es.length = n) {el : Nat → List AV} (hl : ∀ i, i < n → es[i]? = some (el i)) :
    (∀ k, n ≤ k → RepF w' (fun b => F b ∨ b = w.heap.size) (.fsl none sz bs n el) (.slice (some ⟨w.heap.size, 0, none⟩) n k)) ∧
    (0 < n → RepF w' (fun b => F b ∨ b = w.heap.size) (.fptr sz n el 0 0) (.pointer (some ⟨w.heap.size, 0, none⟩))) ∧
    HRep w' μ (fun b => F b ∨ b = w.heap.size) H ∧ GOK cx w' (fun b => F b ∨ b = w.heap.size) ∧ Fr w μ F H w' μ (fun b => F b ∨ b = w.heap.size) H := by
  have hold : ∀ b, b < w.heap.size → w'.heap[b]? = w.heap[b]? := fun b hb => by subst hw; show (w1.heap.push _)[b]? = _; rw [hw1, Array.getElem?_push, if_neg (by omega)]
  have hs : w.heap.size < w'.heap.size := by subst hw; simp [hw1]
  have hnew : w'.heap[w.heap.size]? = some (.cells c e fz) := by subst hw; show (w1.heap.push _)[_]? = _; rw [hw1]; simp
  have hk : ∀ b, F b → w'.heap[b]? = w.heap[b]? := fun b hb => hold b (h.lt b hb)
  have hF : ∀ b, F b → (fun b => F b ∨ b = w.heap.size) b := fun b hb => .inl hb
  have hcr : CellsRep w' μ (fun b => F b ∨ b = w.heap.size) ⟨some w.heap.size, 0, sz, bs, cap⟩ sz bs es w.heap.size :=
    CellsRep.of_flat (vs := vs) hnew (by simpa using hc) hfz ⟨hel, hrep.mono fun a b hh => hh.mono hk hF (fun _ _ h => h), hone, fun k v hv => by simpa using hat k v hv⟩
  obtain ⟨c0, e0, lo, hi0, g1, g2, g3, g4⟩ := hcr.h
  rw [hnew] at g1
  cases g1
  have hgot : ∀ i, (hi : i < n) → es[i]'(by omega) = el i := fun i hi => by
    have := hl i hi
    rw [List.getElem?_eq_getElem (by omega)] at this
    exact Option.some.inj this
  have hlen : ∀ i, i < n → (el i).length = sz := fun i hi => by rw [← hgot i hi]; exact (g4 i (by omega)).1
  have hcell : ∀ i j, ∃ u : Value, i < n → j < sz → u.oneCell' = true ∧ c[i * sz + j]? = some u ∧ ∀ hj : j < (el i).length, RepF w' (fun b => F b ∨ b = w.heap.size) (el i)[j] u := by
    intro i j
    by_cases hi : i < n
    · by_cases hj : j < sz
      · obtain ⟨u, u1, u2, u3⟩ := (g4 i (by omega)).2 j (by rw [(g4 i (by omega)).1]; exact hj)
        refine ⟨u, fun _ _ => ⟨u1, by simpa using u2, fun hj' => ?_⟩⟩
        have h5 := hgot i hi
        have hj2 : j < (es[i]'(by omega)).length := by rw [(g4 i (by omega)).1]; exact hj
        have h6 : idf ((es[i]'(by omega))[j]'hj2) = true := idfL_get (hidf _ (List.getElem_mem (by omega))) j hj2
        simp only [h5] at u3 h6
        exact idf_frz u3 h6
      · exact ⟨undef, fun _ h => absurd h hj⟩
    · exact ⟨undef, fun h => absurd h hi⟩
  let us : Nat → Nat → Value := fun i j => (hcell i j).choose
  have hus : ∀ i j, i < n → j < sz → (us i j).oneCell' = true ∧ c[i * sz + j]? = some (us i j) ∧ ∀ hj : j < (el i).length, RepF w' (fun b => F b ∨ b = w.heap.size) (el i)[j] (us i j) := fun i j hi hj => (hcell i j).choose_spec hi hj
  have hw2 : ∀ i j, i < n → j < sz → w'.cell? ⟨w.heap.size, 0 + i * sz + j, none⟩ = some (us i j) ∧ (us i j).oneCell' = true := by
    intro i j hi hj
    obtain ⟨k1, k2, _⟩ := hus i j hi hj
    refine ⟨?_, k1⟩
    simp only [World.cell?, Nat.zero_add]
    rw [hnew]
    simp [k2]
  have hel2 : ∀ i j (_ : i < n) (hj : j < (el i).length), RepF w' (fun b => F b ∨ b = w.heap.size) (el i)[j] (us i j) := fun i j hi hj => (hus i j hi (by rw [← hlen i hi]; exact hj)).2.2 hj
  have hbase := h.same (w' := w') (Nat.le_of_lt hs) hold
  refine ⟨fun k hk => ?_, fun hp => ?_, ⟨fun r row hr => ?_, hbase.dom, hbase.inj, fun r row l b r1 r2 r3 r4 hb => ?_, fun b hb => ?_⟩, hg.mono hk hF, ⟨by subst hw; exact h1, by subst hw; exact h2, by subst hw; exact h3, Nat.le_of_lt hs, fun b hb _ => hold b hb, fun _ _ h => h, hF, fun b hb => ?_, fun _ h => .inr h⟩⟩
  · by_cases hz : n = 0
    · subst hz
      exact .fsE (by simp)
    · exact .fs us (by omega) (.inr rfl) (by simp) hk (by rw [← hn]; exact hbs) hlen hw2 hel2
  · have := RepF.fp (w := w') (F := fun b => F b ∨ b = w.heap.size) (sz := sz) (n := n) (el := el) (i := 0) (j := 0) (b := w.heap.size) (o := 0) us hp (.inr rfl) hlen hw2 hel2
    simpa using this
  · obtain ⟨l, hl, hrow⟩ := hbase.rows r row hr
    exact ⟨l, hl, hrow.mono (fun _ _ _ => rfl) (fun _ _ => rfl) hF (fun _ _ h => h)⟩
  · rcases hb with hb | rfl
    · exact hbase.disj r row l b r1 r2 r3 r4 hb
    · have := h.row_lt ⟨r, row, l, r1, r2, r3, r4⟩; omega
  · rcases hb with hb | rfl
    · exact Nat.lt_of_lt_of_le (h.lt b hb) (Nat.le_of_lt hs)
    · exact hs
  · rcases hb with hb | rfl
    · exact .inl hb
    · exact .inr (.inl (Nat.le_refl _))
/-- A row that has no memory at all. -/
theorem HRep.layNil (h : HRep w μ F H) {id : Id} (hid : H id = none) {sz bs : Nat} :
    HRep w (mput μ id ⟨none, 0, sz, bs, 0⟩) F (H.put id (.cells sz bs [])) ∧ Fr w μ F H w (mput μ id ⟨none, 0, sz, bs, 0⟩) F (H.put id (.cells sz bs [])) := by
  have keep := mput_keep (μ := μ) ⟨none, 0, sz, bs, 0⟩ (h.dom id hid)
  have inv : ∀ {r row k}, H.put id (.cells sz bs []) r = some row → mput μ id ⟨none, 0, sz, bs, 0⟩ r = some k → ∀ b, k.b = some b → H r = some row ∧ μ r = some k := by
    intro r row k hr hm b hb
    by_cases e : r = id
    · subst e; rw [mput_same] at hm; cases hm; cases hb
    · rw [HH.put_ne _ _ e] at hr; rw [mput_ne _ _ e] at hm; exact ⟨hr, hm⟩
  refine ⟨⟨fun r row hr => ?_, fun r hr => ?_, ?_, ?_, h.lt⟩, ⟨rfl, rfl, rfl, Nat.le_refl _, fun _ _ _ => rfl, keep, fun _ h => h, fun _ h => .inl h, fun b hb => ?_⟩⟩
  · by_cases e : r = id
    · subst e
      rw [HH.put_same] at hr; cases hr
      exact ⟨_, mput_same _ _ _, rfl, rfl, by simp, by simp, by simp⟩
    · rw [HH.put_ne _ _ e] at hr
      obtain ⟨k, hk, hrow⟩ := h.rows r row hr
      exact ⟨k, keep _ _ hk, hrow.mono (fun _ _ _ => rfl) (fun _ _ => rfl) (fun _ h => h) keep⟩
  · by_cases e : r = id
    · subst e; rw [HH.put_same] at hr; cases hr
    · rw [HH.put_ne _ _ e] at hr; rw [mput_ne _ _ e]; exact h.dom r hr
  · intro r r' row row' l l' b hr hv hr' hv' hm hm' hb hb'
    obtain ⟨a1, a2⟩ := inv hr hm b hb
    obtain ⟨b1, b2⟩ := inv hr' hm' b hb'
    exact h.inj r r' row row' l l' b a1 hv b1 hv' a2 b2 hb hb'
  · intro r row l b hr hv hm hb
    obtain ⟨a1, a2⟩ := inv hr hm b hb
    exact h.disj r row l b a1 hv a2 hb
  · obtain ⟨r, row, l, hr, hv, hm, hb'⟩ := hb
    obtain ⟨a1, a2⟩ := inv hr hm b hb'
    exact .inr ⟨r, row, l, a1, hv, a2, hb'⟩
theorem size_zeroCells' (z : Array Value) (n : Nat) : (Builtin.zeroCells z n).size = n * z.size := by simp [Builtin.zeroCells]
/-- append where a new block is laid. -/
theorem grow_sound (h : HRep w μ F H) (hg : GOK cx w F) {t t2 e : TypeId} {sz bs : Nat} {i : TypeInfo} {z : Value} (hsz : 0 < sz) (ht : cx.P.underlying t = some (.slice e)) (hi : cx.P.info? e = some i) (hz : i.zero = some z) (hs : i.size = sz) (hby : i.bytes = bs) (hzs : z.cells.size = sz)
    {base : Option Addr} {n k m : Nat} {xs ys : List (List AV)} {olds news : List Value} (ho : Cont w μ F sz (.slice base n k) n ys olds) {x : Value} (hx : Cont w μ F sz x m xs news)
    (hk2 : (∃ e', cx.P.underlying t2 = some (.slice e')) ∨ cx.P.underlying t2 = some .string) (hkn : k < n + m) (hR : (n + m) * bs ≤ R) (hlen : n + m ≤ R) {ty : TypeId} {id : Id} (hid : H id = none) :
    ∃ v w' μ', (Builtin.append_ #[t, t2] ty #[.slice base n k, x]).run cx.P w = .ok v w' ∧ Rep w' μ' F (.row id 0 (n + m) none) v ∧ HRep w' μ' F (H.put id (.cells sz bs (ys ++ xs))) ∧ GOK cx w' F ∧ Fr w μ F H w' μ' F (H.put id (.cells sz bs (ys ++ xs))) := by
  subst hs; subst hby
  have hol := ho.newsLen
  have hnl := hx.newsLen
  have hfo := ho.first cx.P w.drew n rfl (Nat.le_refl _)
  rw [List.take_of_length_le (by omega)] at hfo
  have hfx := hx.first cx.P w m rfl (Nat.le_refl _)
  rw [List.take_of_length_le (by omega)] at hfx
  have hfx' := hx.first cx.P w.drew m rfl (Nat.le_refl _)
  rw [List.take_of_length_le (by omega)] at hfx'
  have hrun := run_append_grow_src (P := cx.P) w t t2 ty e i z ht hi hz base n k olds hfo x m news ⟨hk2, hx.lenOf cx.P, hfx, hfx', hnl, hx.one⟩ hkn (by simp only [R] at hlen; omega) (growslice_fits (by omega) (by simpa [R] using hR))
  have hge := grownCap_ge w (n + m) k e
  have hcs : ((olds ++ news).toArray ++ Builtin.zeroCells z.cells (grownCap w (n + m) k e - (n + m))).size = grownCap w (n + m) k e * i.size := by
    simp only [Array.size_append, List.size_toArray, List.length_append, size_zeroCells', hzs, hol, hnl]
    rw [← Nat.add_mul, ← Nat.add_mul]; congr 1; omega
  have key := h.layNew (cx := cx) (e := e) (fz := (0, 0)) hg hid (sz := i.size) (bs := i.bytes) (es := ys ++ xs) (c := (olds ++ news).toArray ++ Builtin.zeroCells z.cells (grownCap w (n + m) k e - (n + m))) (cap := grownCap w (n + m) k e) (vs := olds ++ news) (w1 := w.drew) rfl rfl rfl rfl rfl
    (by simp [ho.len, hx.len]; exact hge) (by simp only [List.length_append, ho.len, hx.len]; exact hR) (by rw [hcs]; exact Nat.le_refl _) (fun _ _ _ h => by simp at h) (fun e he => by
      rcases List.mem_append.1 he with he | he
      · exact ho.el e he
      · exact hx.el e he) (by rw [List.flatten_append]; exact ho.rep.append hx.rep) (fun u hu => by
      rcases List.mem_append.1 hu with hu | hu
      · exact ho.one u hu
      · exact hx.one u hu) (fun q v hv => by
      have hq : q < (olds ++ news).length := (List.getElem?_eq_some_iff.1 hv).1
      rw [Array.getElem?_append_left (by simpa using hq)]
      simpa using hv)
  obtain ⟨k1, k2, k3⟩ := key
  exact ⟨_, _, _, hrun, .row (mput_same _ _ _) rfl rfl (.inr (by simp)) hge (by simp) (by simp), k1, k2, k3⟩
/-- A row goes on under another name, in the same block. -/
theorem HRep.move {w' : World} (h : HRep w μ F H) {r id : Id} {l l' : Loc} {row old : Row} (hr : H r = some old) (hlv : old.live = true) (hl : μ r = some l) (hid : H id = none) (hb : l'.b = l.b)
    (hs : w'.heap.size = w.heap.size) (hk : ∀ b, some b ≠ l.b → w'.heap[b]? = w.heap[b]?) (hrow : RowRep w' (mput μ id l') F l' row) :
    HRep w' (mput μ id l') F ((H.put r .dead).put id row) := by
  have hne : id ≠ r := fun e => by subst e; rw [hid] at hr; cases hr
  have keep := mput_keep (μ := μ) l' (h.dom id hid)
  have hF : ∀ b, F b → some b ≠ l.b := fun b hb hlb => h.disj r old l b hr hlv hl hlb.symm hb
  have inv : ∀ {q row1 k}, ((H.put r .dead).put id row) q = some row1 → row1.live = true → mput μ id l' q = some k → (q = id ∧ row1 = row ∧ k = l') ∨ (q ≠ id ∧ q ≠ r ∧ H q = some row1 ∧ μ q = some k) := by
    intro q row1 k h1 h2 h3
    by_cases e : q = id
    · subst e; rw [HH.put_same] at h1; rw [mput_same] at h3; cases h1; cases h3; exact .inl ⟨rfl, rfl, rfl⟩
    · rw [HH.put_ne _ _ e] at h1; rw [mput_ne _ _ e] at h3
      by_cases e' : q = r
      · subst e'; rw [HH.put_same] at h1; cases h1; cases h2
      · rw [HH.put_ne _ _ e'] at h1; exact .inr ⟨e, e', h1, h3⟩
  refine ⟨fun q row1 hq => ?_, fun q hq => ?_, ?_, ?_, fun b hb => hs ▸ h.lt b hb⟩
  · by_cases e : q = id
    · subst e; rw [HH.put_same] at hq; cases hq; exact ⟨l', mput_same _ _ _, hrow⟩
    · rw [HH.put_ne _ _ e] at hq
      by_cases e' : q = r
      · subst e'; rw [HH.put_same] at hq; cases hq; exact ⟨l, keep _ _ hl, trivial⟩
      · rw [HH.put_ne _ _ e'] at hq
        obtain ⟨k, hk', hr'⟩ := h.rows q row1 hq
        exact ⟨k, keep _ _ hk', hr'.mono (fun hv b hb => hk b (fun hlb => e' (h.inj q r row1 old k l b hq hv hr hlv hk' hl hb hlb.symm))) (fun b hb => hk b (hF b hb)) (fun _ h => h) keep⟩
  · by_cases e : q = id
    · subst e; rw [HH.put_same] at hq; cases hq
    · rw [HH.put_ne _ _ e] at hq; rw [mput_ne _ _ e]
      by_cases e' : q = r
      · subst e'; rw [HH.put_same] at hq; cases hq
      · rw [HH.put_ne _ _ e'] at hq; exact h.dom q hq
  · intro q q' row1 row2 l1 l2 b h1 v1 h2 v2 m1 m2 b1 b2
    rcases inv h1 v1 m1 with ⟨rfl, rfl, rfl⟩ | ⟨e1, e2, e3, e4⟩ <;> rcases inv h2 v2 m2 with ⟨f1, f2, f3⟩ | ⟨f1, f2, f3, f4⟩
    · exact f1.symm
    · exact absurd (h.inj q' r row2 old l2 l b f3 v2 hr hlv f4 hl b2 (hb ▸ b1)) f2
    · subst f3; exact absurd (h.inj q r row1 old l1 l b e3 v1 hr hlv e4 hl b1 (hb ▸ b2)) e2
    · exact h.inj q q' row1 row2 l1 l2 b e3 v1 f3 v2 e4 f4 b1 b2
  · intro q row1 l1 b h1 v1 m1 b1 hf
    rcases inv h1 v1 m1 with ⟨rfl, rfl, rfl⟩ | ⟨e1, e2, e3, e4⟩
    · exact h.disj r old l b hr hlv hl (hb ▸ b1) hf
    · exact h.disj q row1 l1 b e3 v1 e4 b1 hf
theorem Fr.move {w' : World} (h : HRep w μ F H) {r id : Id} {l l' : Loc} {row old : Row} (hr : H r = some old) (hlv : old.live = true) (hl : μ r = some l) (hid : H id = none) (hb : l'.b = l.b)
    (h1 : w'.os = w.os) (h2 : w'.tape = w.tape) (h3 : w'.output = w.output) (hs : w'.heap.size = w.heap.size) (hk : ∀ b, some b ≠ l.b → w'.heap[b]? = w.heap[b]?) :
    Fr w μ F H w' (mput μ id l') F ((H.put r .dead).put id row) where
  os := h1
  tape := h2
  output := h3
  size := Nat.le_of_eq hs.symm
  keep := fun b _ hn => hk b (fun e => hn ⟨r, old, l, hr, hlv, hl, e.symm⟩)
  mu := mput_keep l' (h.dom id hid)
  fr := fun _ h => h
  fr' := fun _ h => .inl h
  lv := fun b hb' => by
    obtain ⟨q, row1, k, h1, h2, h3, h4⟩ := hb'
    by_cases e : q = id
    · subst e; rw [mput_same] at h3; cases h3; exact .inr ⟨r, old, l, hr, hlv, hl, hb ▸ h4⟩
    · rw [HH.put_ne _ _ e] at h1; rw [mput_ne _ _ e] at h3
      by_cases e' : q = r
      · subst e'; rw [HH.put_same] at h1; cases h1; cases h2
      · rw [HH.put_ne _ _ e'] at h1; exact .inr ⟨q, row1, k, h1, h2, h3, h4⟩
/-- append: all its ways. -/
theorem appendTo_sound (h : HRep w μ F H) (hg : GOK cx w F) {t t2 e : TypeId} {sz bs : Nat} {i : TypeInfo} {z : Value} (hsz : 0 < sz) (ht : cx.P.underlying t = some (.slice e)) (hi : cx.P.info? e = some i) (hz : i.zero = some z) (hs : i.size = sz) (hby : i.bytes = bs) (hzs : z.cells.size = sz)
    (hk2 : (∃ e', cx.P.underlying t2 = some (.slice e')) ∨ cx.P.underlying t2 = some .string) (hpos : 0 < bs)
    {m : Nat} {xs : List (List AV)} {news : List Value} {x : Value} (hx : Cont w μ F sz x m xs news) {id : Id} {K : AV → HH → Prop} {s : AV} (hk : appendTo sz bs id H m xs K s) {v : Value} (hv : Rep w μ F s v) {ty : TypeId} :
    Yields cx w μ F H (Builtin.append_ #[t, t2] ty #[v, x]) K := by
  have hR : ∀ q, q * bs ≤ R → q ≤ R := fun q hq => Nat.le_trans (Nat.le_mul_of_pos_right q hpos) hq
  have run0 : ∀ a n k, n ≤ k → m = 0 → (Builtin.append_ #[t, t2] ty #[.slice a n k, x]).run cx.P w = .ok (.slice a n k) w := by
    intro a n k hnk hm
    subst hm
    have hf := hx.first cx.P w 0 rfl (Nat.le_refl _)
    simp only [Nat.zero_mul, List.take_zero] at hf
    rcases hk2 with ⟨e', he'⟩ | he' <;> cases a <;> simp [Builtin.append_, run_underlying ht, run_underlying he', sizeOf, typeInfo, hi, hx.lenOf, hs, hf, storeCells, hnk]
  have hnews := hx.newsLen
  unfold appendTo at hk
  split at hk
  · have hf := Rep_fsl hv
    obtain ⟨hb, hk⟩ := hk
    obtain ⟨hid, hk⟩ := fresh_iff hk
    cases hf with
    | fs _ hn => omega
    | fsE hc =>
      rename_i a k
      obtain rfl := hc 0 rfl
      by_cases hm : m = 0
      · subst hm
        obtain rfl : xs = [] := List.eq_nil_of_length_eq_zero hx.len
        obtain ⟨g1, g2⟩ := h.layNil hid (sz := sz) (bs := bs)
        exact ⟨_, w, _, _, _, F, run0 _ _ _ (Nat.le_refl _) rfl, hk, .row0 (mput_same _ _ _) rfl (by simp), g1, hg, g2⟩
      · obtain ⟨v', w', μ', g1, g2, g3, g4, g5⟩ := grow_sound h hg hsz ht hi hz hs hby hzs (Cont.nil w μ F sz a 0) hx hk2 (by omega) (by simpa using hb) (by have := hR _ hb; omega) (ty := ty) hid
        simp only [Nat.zero_add, List.nil_append] at g2 g3 g5
        exact ⟨_, w', _, _, _, F, g1, hk, g2, g3, g4, g5⟩
  · rename_i c' sz' _ n el _
    have hf := Rep_fsl hv
    split at hk
    rotate_left
    · exact hk.elim
    rename_i hb
    obtain rfl := Nat.eq_of_beq_eq_true hb
    obtain ⟨⟨h1, h2⟩, hk⟩ := hk
    obtain ⟨hid, hk⟩ := fresh_iff hk
    obtain ⟨olds, ho⟩ := fsl_cont (μ := μ) hf
    obtain ⟨a, rfl⟩ : ∃ a, v = .slice a n c' := by
      cases hf with
      | fsE hc => obtain rfl := hc _ rfl; exact ⟨_, rfl⟩
      | fs _ _ _ hc => obtain rfl := hc _ rfl; exact ⟨_, rfl⟩
    obtain ⟨v', w', μ', g1, g2, g3, g4, g5⟩ := grow_sound h hg hsz ht hi hz hs hby hzs ho hx hk2 h1 h2 (hR _ h2) (ty := ty) hid
    exact ⟨_, w', _, _, _, F, g1, hk, g2, g3, g4, g5⟩
  · rename_i r o n
    split at hk
    rotate_left
    · exact hk.elim
    rename_i sz' bs' es hr
    split at hk
    rotate_left
    · exact hk.elim
    rename_i hb1 hb2
    obtain rfl := Nat.eq_of_beq_eq_true hb1
    obtain rfl := Nat.eq_of_beq_eq_true hb2
    obtain ⟨l, hl, hh⟩ := Rep_row hv
    obtain ⟨l', hl', hrow⟩ := h.rows r _ hr
    obtain rfl := Option.some.inj (hl'.symm.trans hl)
    have hrow' := hrow
    obtain ⟨a1, a2, a3, a4, a5⟩ := hrow
    rcases hk with ⟨hle, hk⟩ | ⟨⟨hle, hRR⟩, hk⟩
    · rcases hh with ⟨hb, rfl, rfl, _, a, rfl⟩ | ⟨b, a, k, hb, hab, ha, hnk, hc1, hc2, rfl⟩
      · rw [hb] at a5
        obtain ⟨rfl, hcap⟩ := a5
        obtain rfl : m = 0 := by simp at hle; omega
        obtain rfl : xs = [] := List.eq_nil_of_length_eq_zero hx.len
        have hw := h.write (w' := w) (row := .cells sz bs []) hr rfl hl rfl (fun _ _ => rfl) hrow'
        exact ⟨_, w, _, _, μ, F, run0 _ _ _ (Nat.le_refl _) rfl, hk, .row0 hl hb (by simp), by simpa [over] using hw, hg, by simpa [over] using Fr.write (w' := w) hr rfl hl rfl rfl rfl rfl (fun _ _ => rfl)⟩
      · have hok := hc1 rfl
        rw [hb] at a5
        obtain ⟨cc, e', lo, hi', us, g1, g2, g3, gf⟩ := a5.flat
        have hfl := flatten_length gf.len
        by_cases hm : m = 0
        · subst hm
          obtain rfl : xs = [] := List.eq_nil_of_length_eq_zero hx.len
          have hov : over es (o + n) [] = es := by simp [over]
          have hw := h.write (w' := w) (row := .cells sz bs es) hr rfl hl rfl (fun _ _ => rfl) hrow'
          exact ⟨_, w, _, _, μ, F, run0 _ _ _ hnk rfl, hk, by simpa using hv, by rw [hov]; exact hw, hg, by rw [hov]; exact Fr.write (w' := w) hr rfl hl rfl rfl rfl rfl (fun _ _ => rfl)⟩
        · obtain rfl := ha.resolve_left (by omega)
          have e1 : (o + n) * sz + m * sz ≤ es.length * sz := by rw [← Nat.add_mul]; exact Nat.mul_le_mul_right _ hle
          have hxf := flatten_length hx.el
          rw [hx.len] at hxf
          have key := h.writeFlat hg (es' := over es (o + n) xs) (o := (o + n) * sz) hr hl hb hx.rep hx.one (by rw [hfl, hxf]; exact e1)
            (by simp only [over, List.flatten_append, flatten_take gf.len, flatten_drop gf.len, hx.len, hxf, Nat.add_mul])
            (by simp only [over, List.length_append, List.length_take, List.length_drop, hx.len]; omega)
            (fun e he => by
              simp only [over, List.mem_append] at he
              rcases he with (he | he) | he
              · exact gf.len e (List.mem_of_mem_take he)
              · exact hx.el e he
              · exact gf.len e (List.mem_of_mem_drop he))
          obtain ⟨k1, k2, k3, k4⟩ := key
          have hf := hx.first cx.P w m rfl (Nat.le_refl _)
          rw [List.take_of_length_le (by omega)] at hf
          have hrun : (Builtin.append_ #[t, t2] ty #[.slice (some ⟨b, l'.base + o * l'.sz, none⟩) n k, x]).run cx.P w = .ok (.slice (some ⟨b, l'.base + o * l'.sz, none⟩) (n + m) k) (w.setCells b (l'.base + (o + n) * sz) news) := by
            have hk1 := k1 cx.P
            have hnm : n + m ≤ k := by omega
            have he1 : l'.base + o * sz + n * sz = l'.base + (o + n) * sz := by rw [Nat.add_mul]; omega
            rcases hk2 with ⟨e', he'⟩ | he' <;> simp [Builtin.append_, run_underlying ht, run_underlying he', sizeOf, typeInfo, hi, hx.lenOf, hs, hf, hnm, Addr.add_mid, a1, he1, hk1]
          exact ⟨_, _, _, _, μ, F, hrun, hk, .row hl hb rfl (.inr rfl) (by omega) (fun _ => hok) (by simp), k2, k3, k4⟩
    · obtain ⟨hid, hk⟩ := fresh_iff hk
      have hid0 : (H.put r .dead) id = none := HH.put_kill_ne (by rw [hr]; simp) hid
      have hkl := h.kill hr
      have hfrk := Fr.kill w μ F H r
      obtain ⟨olds, ho⟩ := h.cont hr hv hle
      obtain ⟨a, k, rfl⟩ : ∃ a k, v = .slice a n k := by
        rcases hh with ⟨_, _, rfl, _, a, rfl⟩ | ⟨_, _, _, _, _, _, _, _, _, rfl⟩ <;> exact ⟨_, _, rfl⟩
      by_cases hin : n + m ≤ k
      · rcases hh with ⟨hb, _, rfl, _, a', he⟩ | ⟨b, a', k', hb, hab, ha, hnk, hc1, hc2, he⟩
        · cases he
          obtain rfl : m = 0 := by omega
          obtain rfl : xs = [] := List.eq_nil_of_length_eq_zero hx.len
          obtain ⟨g1, g2⟩ := hkl.layNil hid0 (sz := sz) (bs := bs)
          refine ⟨_, w, _, _, _, F, run0 _ _ _ (Nat.le_refl _) rfl, hk, .row0 (mput_same _ _ _) rfl (by simp), by simpa using g1, hg, by simpa using hfrk.trans g2⟩
        · cases he
          have hok := hc1 rfl
          rw [hb] at a5
          obtain ⟨cc, e', lo, hi', us, g1, g2, g3, gf⟩ := a5.flat
          have hul : us.length = es.length * sz := by rw [← gf.rep.length, flatten_length gf.len]
          have hcap : (o + k) * sz ≤ l'.cap * sz := Nat.mul_le_mul_right _ (by omega)
          have hnm : (n + m) * sz ≤ k * sz := Nat.mul_le_mul_right _ hin
          have hes : (o + n) * sz ≤ es.length * sz := Nat.mul_le_mul_right _ hle
          rw [Nat.add_mul] at hcap hnm hes
          have hzero : k = 0 → news = [] := fun h0 => by
            have hm0 : m = 0 := by omega
            exact List.eq_nil_of_length_eq_zero (by rw [hnews, hm0]; simp)
          have hbound : l'.base + o * sz + n * sz + news.length ≤ cc.size := by omega
          have hblk := setCells_block news w b (l'.base + o * sz + n * sz) cc e' (lo, hi') g1
          have hoth : ∀ q, some q ≠ l'.b → (w.setCells b (l'.base + o * sz + n * sz) news).heap[q]? = w.heap[q]? := fun q hq => setCells_other news w b _ q (fun e => hq (by rw [e, hb]))
          have hFF : ∀ q, F q → (w.setCells b (l'.base + o * sz + n * sz) news).heap[q]? = w.heap[q]? := fun q hq => hoth q (fun e => h.disj r _ l' q hr rfl hl e.symm hq)
          have keep := mput_keep (μ := μ) ⟨some b, l'.base + o * sz, sz, bs, k⟩ (h.dom id hid)
          have hst : (storeCells ⟨b, l'.base + o * sz + n * sz, none⟩ news).run cx.P w = .ok () (w.setCells b (l'.base + o * sz + n * sz) news) := by
            have := run_storeCells_cells (P := cx.P) b (l'.base + o * sz + n * sz) news 0 w (fun j hj => by
                simp only [World.cell?, g1, Nat.add_zero]
                rw [Array.getElem?_eq_getElem (by omega)]; rfl)
              (fun j hj => by
                simp only [World.frozen?, g1, Nat.add_zero]
                have := g3 (l'.base + o * sz + n * sz + j) (by omega)
                cases hd : (decide (lo ≤ l'.base + o * sz + n * sz + j) && decide (l'.base + o * sz + n * sz + j < hi'))
                · rfl
                · simp only [Bool.and_eq_true, decide_eq_true_eq] at hd; exact (this hd.1 hd.2).elim) hx.one
            simpa using this
          have hf := hx.first cx.P w m rfl (Nat.le_refl _)
          rw [List.take_of_length_le (by omega)] at hf
          have hrun : (Builtin.append_ #[t, t2] ty #[.slice (some a') n k, x]).run cx.P w = .ok (.slice (some a') (n + m) k) (w.setCells b (l'.base + o * sz + n * sz) news) := by
            by_cases h0 : k = 0
            · obtain rfl : m = 0 := by omega
              rw [run0 _ _ _ hnk rfl, hzero h0]; rfl
            · obtain rfl := ha.resolve_left h0
              rcases hk2 with ⟨e', he'⟩ | he' <;> simp [Builtin.append_, run_underlying ht, run_underlying he', sizeOf, typeInfo, hi, hx.lenOf, hs, hf, hin, Addr.add_mid, a1, hst]
          have hrow2 : RowRep (w.setCells b (l'.base + o * sz + n * sz) news) (mput μ id ⟨some b, l'.base + o * sz, sz, bs, k⟩) F ⟨some b, l'.base + o * sz, sz, bs, k⟩ (.cells sz bs ((es.drop o).take n ++ xs)) := by
            refine ⟨rfl, rfl, by simp only [List.length_append, ho.len, hx.len]; exact hin, by simp only [List.length_append, hx.len, ho.len]; exact hRR, ?_⟩
            refine CellsRep.of_flat (vs := (us.drop (o * sz)).take (n * sz) ++ news) hblk (by rw [writeAt_size]; show l'.base + o * sz + k * sz ≤ cc.size; omega) (by rw [writeAt_size]; exact g3) ⟨fun e he => ?_, ?_, fun u hu => ?_, fun q u hu => ?_⟩
            · rcases List.mem_append.1 he with he | he
              · exact ho.el e he
              · exact hx.el e he
            · rw [List.flatten_append, flatten_take (fun e he => gf.len e (List.mem_of_mem_drop he)), flatten_drop gf.len]
              exact (((gf.rep.drop _).take _).append hx.rep).mono fun _ _ hh => hh.mono hFF (fun _ h => h) keep
            · rcases List.mem_append.1 hu with hu | hu
              · exact gf.one u (List.mem_of_mem_drop (List.mem_of_mem_take hu))
              · exact hx.one u hu
            · show (writeAt cc (l'.base + o * sz + n * sz) news)[l'.base + o * sz + q]? = some u
              rw [writeAt_get _ _ _ _ hbound]
              by_cases hq : q < n * sz
              · rw [if_neg (by omega)]
                rw [List.getElem?_append_left (by simp; omega), List.getElem?_take, if_pos hq, List.getElem?_drop] at hu
                have := gf.at_ _ _ hu
                rw [← Nat.add_assoc] at this; exact this
              · rw [List.getElem?_append_right (by simp; omega)] at hu
                have hlen : ((us.drop (o * sz)).take (n * sz)).length = n * sz := by simp; omega
                rw [hlen] at hu
                have hq2 : q - n * sz < news.length := (List.getElem?_eq_some_iff.1 hu).1
                rw [if_pos (by omega)]
                rw [← hu]; congr 1; omega
          exact ⟨_, _, _, _, _, F, hrun, hk, .row (mput_same _ _ _) rfl hab (ha.imp (fun h => h) fun ha => by rw [ha, a1]; simp) hin (by simp) (by simp),
            h.move hr rfl hl hid hb.symm (setCells_size _ _ _ _) hoth hrow2, hg.mono hFF (fun _ h => h),
            Fr.move h hr rfl hl hid hb.symm (setCells_rest _ _ _ _).1 (setCells_rest _ _ _ _).2.1 (setCells_rest _ _ _ _).2.2 (setCells_size _ _ _ _) hoth⟩
      · obtain ⟨v', w', μ', g1, g2, g3, g4, g5⟩ := grow_sound hkl hg hsz ht hi hz hs hby hzs ho hx hk2 (by omega) hRR (hR _ hRR) (ty := ty) hid0
        exact ⟨_, w', _, _, _, F, g1, hk, g2, g3, g4, hfrk.trans g5⟩
  · rename_i r o n k
    split at hk
    rotate_left
    · exact hk.elim
    rename_i sz' bs' es hr
    split at hk
    rotate_left
    · exact hk.elim
    rename_i hb1 hb2
    obtain rfl := Nat.eq_of_beq_eq_true hb1
    obtain rfl := Nat.eq_of_beq_eq_true hb2
    obtain ⟨⟨h1, h2, h3⟩, hk⟩ := hk
    obtain ⟨hid, hk⟩ := fresh_iff hk
    obtain ⟨olds, ho⟩ := h.cont hr hv h1
    obtain ⟨a, rfl⟩ : ∃ a, v = .slice a n k := by
      obtain ⟨l, _, hh⟩ := Rep_row hv
      rcases hh with ⟨_, _, rfl, hc, a, rfl⟩ | ⟨b, a, k', _, _, _, _, _, hc, rfl⟩
      · obtain rfl := hc _ rfl; exact ⟨_, rfl⟩
      · obtain ⟨rfl, _⟩ := hc _ rfl; exact ⟨_, rfl⟩
    obtain ⟨v', w', μ', g1, g2, g3, g4, g5⟩ := grow_sound h hg hsz ht hi hz hs hby hzs ho hx hk2 h2 h3 (hR _ h3) (ty := ty) hid
    exact ⟨_, w', _, _, _, F, g1, hk, g2, g3, g4, g5⟩
  · exact hk.elim
end
end Go.Eng
/- Soundness, fifth part: the other operations. -/
namespace Go.Eng
section
variable {cx : Cx} {w : World} {μ : Id → Option Loc} {F : Nat → Prop} {H : HH}
/-- A value's cells, as they stand in a box. -/
theorem box_sound (h : HRep w μ F H) (hg : GOK cx w F) {id : Id} (hid : H id = none) {sz bs : Nat} {cs : List AV} {vs : List Value} {e : TypeId} (hr : All2 (Rep w μ F) cs vs) (h1 : ∀ u ∈ vs, u.oneCell' = true) (hl : cs.length = sz) (hb : bs ≤ R) :
    let w' : World := { w with heap := w.heap.push (.cells ⟨vs⟩ e) }
    ∃ μ', Rep w' μ' F (.ptr id 0 0) (.pointer (some ⟨w.heap.size, 0, none⟩)) ∧ HRep w' μ' F (H.put id (.cells sz bs [cs])) ∧ GOK cx w' F ∧ Fr w μ F H w' μ' F (H.put id (.cells sz bs [cs])) := by
  have := h.layNew (cx := cx) hg hid (sz := sz) (bs := bs) (es := [cs]) (c := ⟨vs⟩) (e := e) (fz := (0, 0)) (cap := 1) (vs := vs) (w1 := w) rfl rfl rfl rfl rfl (by simp) (by simpa using hb)
    (by simp [← hr.length, hl]) (fun _ _ _ h => by simp at h) (by simpa using hl) (by simpa using hr) h1 (fun k v hv => by simpa using hv)
  obtain ⟨k1, k2, k3⟩ := this
  exact ⟨_, by simpa using Rep.ptr (w := _) (F := F) (i := 0) (j := 0) (mput_same _ _ _) rfl, k1, k2, k3⟩
theorem alloc_sound (ok : CxOK cx) (h : HRep w μ F H) (hg : GOK cx w F) {id : Id} {t : TypeId} {d sz bs z} (ht : cx.ty t = some ⟨d, sz, bs, z⟩) {K : AV → HH → Prop} (hk : fresh H id (K (.ptr id 0 0) (H.put id (.cells sz bs [z])))) :
    Yields cx w μ F H (Instr.alloc t true (.tuple #[])) K := by
  obtain ⟨hid, hk⟩ := fresh_iff hk
  obtain ⟨i, dd, zz, t1, t2, t3, t4, t5, t6, t7, t8, t9, t10, t11⟩ := (ok.ty t _ ht).ok
  obtain ⟨μ', k1, k2, k3, k4⟩ := box_sound (e := t) h hg hid (sz := sz) (bs := bs) ((t9 w F).mono fun _ _ h => .frz h) t10 t8 t11
  refine ⟨_, _, _, _, μ', F, ?_, hk, k1, k2, k3, k4⟩
  simp [Instr.alloc, zeroValue, typeInfo, t1, t6, newVar, newRow]
theorem boxop_sound (h : HRep w μ F H) (hg : GOK cx w F) {id : Id} {t : TypeId} {sz bs : Nat} (hb : bs ≤ R) {v : AV} {y : Value} (hv : Rep w μ F v y) (hl : (cellsOf v).length = sz) {K : AV → HH → Prop} (hk : okCells (cellsOf v) (BoxP (fresh H id (K (.ptr id 0 0) (H.put id (.cells sz bs [cellsOf v])))) (idfL (cellsOf v) = true ∧ K (.fptr sz 1 (fun _ => cellsOf v) 0 0) H))) :
    Yields cx w μ F H (Instr.box t y) K := by
  obtain ⟨hok, hk⟩ := okCells_iff hk
  obtain ⟨hrep, hone⟩ := cells_rep hv hok
  rcases hk with hk | ⟨hi, hk⟩
  · obtain ⟨hid, hk⟩ := fresh_iff hk
    obtain ⟨μ', k1, k2, k3, k4⟩ := box_sound (e := t) h hg hid (sz := sz) (bs := bs) hrep hone hl hb
    refine ⟨_, _, _, _, μ', F, ?_, hk, k1, k2, k3, k4⟩
    simp [Instr.box, newVar, newRow]
  · obtain ⟨_, k1, k2, k3, k4⟩ := h.layFrz (cx := cx) hg (sz := sz) (bs := bs) (es := [cellsOf v]) (c := ⟨y.cells.toList⟩) (e := t) (fz := (0, 0)) (cap := 1) (vs := y.cells.toList) (w1 := w) rfl rfl rfl rfl rfl (by simp) (by simpa using hb)
      (by simp [← hl, hrep.length]) (fun _ _ _ h => by simp at h) (by simpa using hl) (by simpa using hrep) hone (fun k v hv => by simpa using hv) (by simpa using hi) (n := 1) rfl (el := fun _ => cellsOf v) (fun i hi => by
        obtain rfl : i = 0 := by omega
        rfl)
    refine ⟨_, _, _, _, μ, _, ?_, hk, .frz (k1 (by omega)), k2, k3, k4⟩
    simp [Instr.box, newVar, newRow]
theorem partsK_iff {T : TT} : ∀ {ps : List (Nat × Operand)} {k : List (Nat × AV) → Prop}, partsK cx T ps k → ∃ l, k l ∧ All2 (fun (p : Nat × Operand) (q : Nat × AV) => p.1 = q.1 ∧ ev cx T p.2 = some q.2) ps l
  | [], k, h => ⟨[], h, .nil⟩
  | (i, x) :: ps, k, h => by
    unfold partsK withE at h
    split at h
    · rename_i v hv
      obtain ⟨l, h1, h2⟩ := partsK_iff h
      exact ⟨_, h1, .cons ⟨rfl, hv⟩ h2⟩
    · exact h.elim
theorem evs_iff {T : TT} : ∀ {ps : List Operand} {k : List AV → Prop}, evs cx T ps k → ∃ l, k l ∧ All2 (fun p q => ev cx T p = some q) ps l
  | [], k, h => ⟨[], h, .nil⟩
  | x :: ps, k, h => by
    unfold evs withE at h
    split at h
    · rename_i v hv
      obtain ⟨l, h1, h2⟩ := evs_iff h
      exact ⟨_, h1, .cons hv h2⟩
    · exact h.elim
/-- Parts laid at their places: 'fill' of the model, in flat cells. -/
theorem fill_cells {place : Nat → Option (Nat × Nat)} : ∀ (l : List (Nat × Value)) (cs : Array Value) (out : List Value),
    (∀ p ∈ l, ∃ o, place p.1 = some (o, p.2.cells.size) ∧ o + p.2.cells.size ≤ cs.size) →
    out = l.foldl (fun acc p => match place p.1 with | some (o, n) => acc.take o ++ p.2.cells.toList ++ acc.drop (o + n) | none => acc) cs.toList →
    ∃ cs', Instr.fill place cs l = some cs' ∧ cs'.toList = out ∧ cs'.size = cs.size
  | [], cs, out, _, h => ⟨cs, rfl, by rw [h]; rfl, rfl⟩
  | (i, v) :: l, cs, out, hp, h => by
    obtain ⟨o, h1, h2⟩ := hp (i, v) (by simp)
    simp only at h1 h2
    have hz : v.cells.zipIdx.foldl (fun cs (c, j) => cs.setIfInBounds (o + j) c) cs = writeAt cs o v.cells.toList := by
      have key : ∀ (vs : List Value) (k : Nat) (cs : Array Value), (vs.zipIdx k).foldl (fun cs (c, j) => cs.setIfInBounds (o + j) c) cs = writeAt cs (o + k) vs := by
        intro vs
        induction vs with
        | nil => intro k cs; rfl
        | cons v vs ih => intro k cs; simp only [List.zipIdx_cons, List.foldl_cons, writeAt]; rw [ih]; rfl
      have := key v.cells.toList 0 cs
      rw [← Array.foldl_toList]
      simpa using this
    have hw : (writeAt cs o v.cells.toList).toList = cs.toList.take o ++ v.cells.toList ++ cs.toList.drop (o + v.cells.size) := by
      apply List.ext_getElem?
      intro k
      have := writeAt_get v.cells.toList cs o k (by simpa using h2)
      rw [Array.getElem?_toList, this]
      by_cases a : k < o
      · rw [if_neg (by omega), List.append_assoc, List.getElem?_append_left (by simp; omega), List.getElem?_take, if_pos a]; simp
      · by_cases b : k < o + v.cells.size
        · rw [if_pos ⟨by omega, by simpa using b⟩, List.append_assoc, List.getElem?_append_right (by simp; omega), List.getElem?_append_left (by simp; omega)]
          congr 1; simp; omega
        · rw [if_neg (by simp; omega), List.getElem?_append_right (by simp; omega), List.getElem?_drop]
          rw [Array.getElem?_toList]; congr 1; simp; omega
    have hs : (writeAt cs o v.cells.toList).size = cs.size := writeAt_size _ _ _
    obtain ⟨cs', k1, k2, k3⟩ := fill_cells l (writeAt cs o v.cells.toList) out (fun p hp' => by
        obtain ⟨o', a, b⟩ := hp p (by simp [hp'])
        exact ⟨o', a, by rw [hs]; exact b⟩) (by rw [h, List.foldl_cons]; simp only [h1]; rw [hw])
    refine ⟨cs', ?_, k2, by rw [k3, hs]⟩
    unfold Instr.fill
    simp only [h1]
    rw [if_neg (by simp; omega), hz]; exact k1
theorem run_mapM {α β : Type} {P : Program} {f : α → Sem β} {w : World} : ∀ (l : List α) (r : List β), All2 (fun a b => (f a).run P w = .ok b w) l r → (l.mapM f).run P w = .ok r w
  | [], [], _ => by simp
  | a :: l, b :: r, h => by
    cases h with
    | cons h1 h2 =>
      simp only [List.mapM_cons, Sem.run_bind, h1, Result.andThen_ok, run_mapM l r h2, Sem.run_pure]
theorem fillK_sound {offs : List (Nat × Nat)} : ∀ {l : List (Nat × AV)} {z : List AV} {k : List AV → Prop}, fillK offs l z k → ∀ {vl : List (Nat × Value)} {zs : List Value}, All2 (fun p q => p.1 = q.1 ∧ Rep w μ F p.2 q.2) l vl → All2 (Rep w μ F) z zs → (∀ v ∈ zs, v.oneCell' = true) →
    ∃ z' zs', k z' ∧ All2 (Rep w μ F) z' zs' ∧ (∀ v ∈ zs', v.oneCell' = true) ∧ zs' = vl.foldl (fun acc p => match offs[p.1]? with | some (o, n) => acc.take o ++ p.2.cells.toList ++ acc.drop (o + n) | none => acc) zs ∧
      ∀ p ∈ vl, ∃ o, offs[p.1]? = some (o, p.2.cells.size) ∧ o + p.2.cells.size ≤ zs.length
  | [], z, k, h, vl, zs, hl, hz, h1 => by cases hl; exact ⟨z, zs, h, hz, h1, rfl, by simp⟩
  | (i, v) :: l, z, k, h, vl, zs, hl, hz, h1 => by
    cases hl with
    | cons hq hl =>
      rename_i q vl
      obtain ⟨j, y⟩ := q
      obtain ⟨rfl, hv⟩ := hq
      simp only at hv
      unfold fillK at h
      split at h
      rotate_left
      · exact h.elim
      rename_i o n ho
      split at h
      rotate_left
      · exact h.elim
      rename_i hn
      have hn := Nat.eq_of_beq_eq_true hn
      obtain ⟨hok, h⟩ := okCells_iff h
      obtain ⟨hrep, hone⟩ := cells_rep hv hok
      obtain ⟨hle, h⟩ := updN_iff h
      have hcs : y.cells.size = n := by rw [← hn, hrep.length]; simp
      have hzl := hz.length
      have hz' : All2 (Rep w μ F) (z.take o ++ cellsOf v ++ z.drop (o + (cellsOf v).length)) (zs.take o ++ y.cells.toList ++ zs.drop (o + n)) := by
        rw [hn]; exact ((hz.take o).append hrep).append (hz.drop _)
      have h1' : ∀ u ∈ zs.take o ++ y.cells.toList ++ zs.drop (o + n), u.oneCell' = true := fun u hu => by
        simp only [List.mem_append] at hu
        rcases hu with (hu | hu) | hu
        · exact h1 u (List.mem_of_mem_take hu)
        · exact hone u hu
        · exact h1 u (List.mem_of_mem_drop hu)
      obtain ⟨z', zs', a1, a2, a3, a4, a5⟩ := fillK_sound h hl hz' h1'
      refine ⟨z', zs', a1, a2, a3, ?_, ?_⟩
      · rw [List.foldl_cons]; simp only [ho]; exact a4
      · intro p hp
        simp only [List.mem_cons] at hp
        rcases hp with rfl | hp
        · exact ⟨o, by rw [hcs]; exact ho, by rw [hcs]; omega⟩
        · obtain ⟨o', b1, b2⟩ := a5 p hp
          refine ⟨o', b1, ?_⟩
          simp only [List.length_append, List.length_take, List.length_drop, Array.length_toList] at b2
          omega
theorem build_sound (ok : CxOK cx) (h : HRep w μ F H) (hg : GOK cx w F) {t : TypeId} {offs n bs z} (ht : cx.ty t = some ⟨.struct offs, n, bs, z⟩) {l : List (Nat × AV)} {vl : List (Nat × Value)} (hl : All2 (fun p q => p.1 = q.1 ∧ Rep w μ F p.2 q.2) l vl) {K : AV → HH → Prop}
    (hk : fillK offs l z fun z => K (.agg z) H) : Yields cx w μ F H (Instr.build t ⟨vl⟩) K := by
  obtain ⟨i, dd, zz, t1, t2, t3, t4, t5, t6, t7, t8, t9, t10, t11⟩ := (ok.ty t _ ht).ok
  obtain ⟨fs, rfl, hfs⟩ := t5
  obtain ⟨cs, rfl⟩ : ∃ cs, zz = .agg cs := t7
  obtain ⟨z', zs', a1, a2, a3, a4, a5⟩ := fillK_sound hk hl ((t9 w F).mono fun _ _ h => .frz h) t10
  have hmap : (fs.mapM (m := Sem) fun f => do pure (f.offset, ← sizeOf f.type)).run cx.P w = .ok offs.toArray w := by
    rw [Array.mapM_eq_mapM_toList]
    have := run_mapM (P := cx.P) (w := w) (f := fun (f : Field) => (do pure (f.offset, ← sizeOf f.type) : Sem (Nat × Nat))) fs.toList offs (by
      have hlen := hfs.length
      refine .of_get hlen.symm fun j hj hj' => ?_
      obtain ⟨b1, b2, i', b3, b4⟩ := hfs.get j hj' hj
      simp only [sizeOf, typeInfo, Sem.run_bind, run_program, Result.andThen_ok, b3, Sem.run_pure, b4, ← b1])
    simp only [Sem.run_map, this, Result.andThen_ok]
  obtain ⟨cs', c1, c2, c3⟩ := fill_cells (place := fun j => offs[j]?) vl cs zs' a5 (by rw [a4]; rfl)
  refine .same h hg (v := .agg cs') ?_ a1 ?_
  · simp only [Instr.build, zeroValue, typeInfo, Sem.run_bind, run_program, Result.andThen_ok, t1, t6, Sem.run_pure, run_underlying t2, hmap, Value.cells]
    have : (fun x => offs.toArray[x]?) = fun j : Nat => offs[j]? := by funext j; simp
    rw [this, c1]; rfl
  · obtain rfl : cs' = ⟨zs'⟩ := by rw [← c2]
    exact a2.agg
end
end Go.Eng
/- Soundness, sixth part: slices built and made, conversions, addresses, arithmetic. -/
namespace Go.Eng
section
variable {cx : Cx} {w : World} {μ : Id → Option Loc} {F : Nat → Prop} {H : HH}
theorem buildSliceK_iff {sz : Nat} : ∀ {n : Nat} {l : List (Nat × AV)} {k : List (List AV) → Prop}, buildSliceK sz n l k → k (l.map fun p => cellsOf p.2) ∧ (∀ p ∈ l, (cellsOf p.2).length = sz ∧ ∀ c ∈ cellsOf p.2, okCell c = true) ∧ ∀ j (hj : j < l.length), (l[j]).1 = n + j
  | n, [], k, h => ⟨h, by simp, by simp⟩
  | n, (i, v) :: l, k, h => by
    unfold buildSliceK at h
    split at h
    · rename_i h1 h2
      obtain ⟨h3, h⟩ := okCells_iff h
      obtain ⟨a, b, c⟩ := buildSliceK_iff h
      refine ⟨a, fun p hp => ?_, fun j hj => ?_⟩
      · simp only [List.mem_cons] at hp
        rcases hp with rfl | hp
        · exact ⟨Nat.eq_of_beq_eq_true h2, h3⟩
        · exact b p hp
      · cases j with
        | zero => simpa using Nat.eq_of_beq_eq_true h1
        | succ j => have := c j (by simpa using hj); simp only [List.getElem_cons_succ]; omega
    · exact h.elim
theorem foldl_lay {sz : Nat} : ∀ (vl : List (Nat × Value)) (n : Nat) (acc : List Value), (∀ p ∈ vl, p.2.cells.size = sz) → (∀ j (hj : j < vl.length), (vl[j]).1 = n + j) → n * sz + vl.length * sz = acc.length →
    vl.foldl (fun acc p => acc.take (p.1 * sz) ++ p.2.cells.toList ++ acc.drop (p.1 * sz + sz)) acc = acc.take (n * sz) ++ (vl.map fun p => p.2.cells.toList).flatten
  | [], n, acc, _, _, h => by simp at h; simp [List.take_of_length_le (show acc.length ≤ n * sz by omega)]
  | (i, v) :: vl, n, acc, hs, hi, h => by
    obtain rfl : i = n := hi 0 (by simp)
    have hv : v.cells.size = sz := hs (i, v) (by simp)
    have hl : ((i, v) :: vl).length * sz = vl.length * sz + sz := by simp [Nat.add_mul]
    have ih := foldl_lay vl (i + 1) (acc.take (i * sz) ++ v.cells.toList ++ acc.drop (i * sz + sz)) (fun p hp => hs p (by simp [hp])) (fun j hj => by
      have := hi (j + 1) (by simpa using hj); simp only [List.getElem_cons_succ] at this; omega) (by simp [hv, Nat.add_mul]; omega)
    rw [List.foldl_cons, ih]
    simp only [List.map_cons, List.flatten_cons]
    rw [← List.append_assoc]
    congr 1
    rw [List.take_append_of_le_length (by simp [hv, Nat.add_mul]; omega), List.take_of_length_le (by simp [hv, Nat.add_mul]; omega)]
theorem buildSlice_sound (ok : CxOK cx) (h : HRep w μ F H) (hg : GOK cx w F) {id : Id} {t e : TypeId} {n n0 bs0 z0 d sz bs z} (ht : cx.ty t = some ⟨.slice e, n0, bs0, z0⟩) (he : cx.ty e = some ⟨d, sz, bs, z⟩) (hn1 : n * bs ≤ 16777216) (hn2 : n * sz ≤ 16777216)
    {l : List (Nat × AV)} {vl : List (Nat × Value)} (hl : All2 (fun p q => p.1 = q.1 ∧ Rep w μ F p.2 q.2) l vl) (hln : l.length = n) {K : AV → HH → Prop}
    (hk : buildSliceK sz 0 l fun es => BuildP (fresh H id (K (.row id 0 n none) (H.put id (.cells sz bs es)))) (es.all idfL = true ∧ K (.fsl none sz bs n (fun i => es.getD i [])) H)) : Yields cx w μ F H (Instr.buildSlice t n ⟨vl⟩) K := by
  obtain ⟨hk, hc, hi⟩ := buildSliceK_iff hk
  obtain ⟨i1, d1, z1, s1, s2, s3, s4, s5, _⟩ := (ok.ty t _ ht).ok
  obtain ⟨i2, d2, z2, t1, t2, t3, t4, t5, t6, t7, t8, t9, t10, t11⟩ := (ok.ty e _ he).ok
  obtain rfl : d1 = .slice e := s5
  have hll := hl.length
  have hcell : ∀ j (hj : j < vl.length), (vl[j]).2.cells.size = sz ∧ All2 (Rep w μ F) (cellsOf (l[j]'(by omega)).2) (vl[j]).2.cells.toList ∧ ∀ u ∈ (vl[j]).2.cells.toList, u.oneCell' = true := by
    intro j hj
    obtain ⟨a, b⟩ := hl.get j (by omega) hj
    obtain ⟨c1, c2⟩ := hc _ (List.getElem_mem (by omega : j < l.length))
    obtain ⟨r1, r2⟩ := cells_rep b c2
    exact ⟨by rw [← c1, r1.length]; simp, r1, r2⟩
  have hsz : ∀ p ∈ vl, p.2.cells.size = sz := fun p hp => by
    obtain ⟨j, hj, rfl⟩ := List.getElem_of_mem hp
    exact (hcell j hj).1
  have hidx : ∀ j (hj : j < vl.length), (vl[j]).1 = 0 + j := fun j hj => by
    rw [← (hl.get j (by omega) hj).1]; exact hi j (by omega)
  have hrep : All2 (Rep w μ F) (l.map fun p => cellsOf p.2).flatten (vl.map fun p => p.2.cells.toList).flatten := by
    have key : ∀ {l : List (Nat × AV)} {vl : List (Nat × Value)}, All2 (fun p q => p.1 = q.1 ∧ Rep w μ F p.2 q.2) l vl → (∀ p ∈ l, ∀ c ∈ cellsOf p.2, okCell c = true) → All2 (Rep w μ F) (l.map fun p => cellsOf p.2).flatten (vl.map fun p => p.2.cells.toList).flatten := by
      intro l vl h
      induction h with
      | nil => intro _; exact .nil
      | cons hq _ ih => intro hc; exact (cells_rep hq.2 (hc _ (by simp))).1.append (ih fun p hp => hc p (by simp [hp]))
    exact key hl fun p hp => (hc p hp).2
  have hone : ∀ u ∈ (vl.map fun p => p.2.cells.toList).flatten, u.oneCell' = true := by
    intro u hu
    simp only [List.mem_flatten, List.mem_map] at hu
    obtain ⟨_, ⟨p, hp, rfl⟩, hu⟩ := hu
    obtain ⟨j, hj, rfl⟩ := List.getElem_of_mem hp
    exact (hcell j hj).2.2 u hu
  have key : ∀ zs : Array Value, zs.size = n * sz → ∃ cs', Instr.fill (fun i => some (i * sz, sz)) zs vl = some cs' ∧ cs'.toList = (vl.map fun p => p.2.cells.toList).flatten ∧ cs'.size = n * sz := by
    intro zs hzs
    obtain ⟨cs', k1, k2, k3⟩ := fill_cells (place := fun i => some (i * sz, sz)) vl zs (vl.map fun p => p.2.cells.toList).flatten (fun p hp => by
        obtain ⟨j, hj, rfl⟩ := List.getElem_of_mem hp
        refine ⟨(vl[j]).1 * sz, by rw [(hcell j hj).1], ?_⟩
        rw [(hcell j hj).1, hidx j hj, Nat.zero_add, hzs]
        have := Nat.mul_le_mul_right sz (show j + 1 ≤ n by omega)
        rw [Nat.add_mul, Nat.one_mul] at this; exact this) (by
        have := foldl_lay vl 0 zs.toList hsz hidx (by simp only [Array.length_toList, hzs, Nat.zero_mul, Nat.zero_add]; rw [show vl.length = n by omega])
        simp only [Nat.zero_mul, List.take_zero, List.nil_append] at this
        rw [← this])
    exact ⟨cs', k1, k2, by rw [k3, hzs]⟩
  have hesl : (l.map fun p => cellsOf p.2).length = n := by simp [hln]
  have fin : ∀ cs' : Array Value, cs'.toList = (vl.map fun p => p.2.cells.toList).flatten → cs'.size = n * sz → (Instr.buildSlice t n ⟨vl⟩).run cx.P w = .ok (.slice (some ⟨w.heap.size, 0, none⟩) n n) { w with heap := w.heap.push (.cells cs' e) } → Yields cx w μ F H (Instr.buildSlice t n ⟨vl⟩) K := by
    intro cs' c1 c2 hrun
    have hels : ∀ x ∈ l.map (fun p => cellsOf p.2), x.length = sz := fun x hx => by
      simp only [List.mem_map] at hx
      obtain ⟨p, hp, rfl⟩ := hx
      exact (hc p hp).1
    rcases hk with hk | ⟨hidf, hk⟩
    · obtain ⟨hid, hk⟩ := fresh_iff hk
      obtain ⟨k1, k2, k3⟩ := h.layNew (cx := cx) hg hid (sz := sz) (bs := bs) (es := l.map fun p => cellsOf p.2) (c := cs') (e := e) (fz := (0, 0)) (cap := n) (vs := (vl.map fun p => p.2.cells.toList).flatten) (w1 := w) rfl rfl rfl rfl rfl
        (by omega) (by rw [hesl]; simp only [R]; omega) (by rw [c2]; exact Nat.le_refl _) (fun _ _ _ h => by simp at h) hels hrep hone (fun k v hv => by rw [← c1] at hv; simpa using hv)
      exact ⟨_, _, _, _, _, F, hrun, hk, .row (mput_same _ _ _) rfl rfl (.inr (by simp)) (Nat.le_refl _) (by simp) (by simp), k1, k2, k3⟩
    · obtain ⟨k0, _, k2, k3, k4⟩ := h.layFrz (cx := cx) hg (sz := sz) (bs := bs) (es := l.map fun p => cellsOf p.2) (c := cs') (e := e) (fz := (0, 0)) (cap := n) (vs := (vl.map fun p => p.2.cells.toList).flatten) (w1 := w) rfl rfl rfl rfl rfl
        (by omega) (by rw [hesl]; simp only [R]; omega) (by rw [c2]; exact Nat.le_refl _) (fun _ _ _ h => by simp at h) hels hrep hone (fun k v hv => by rw [← c1] at hv; simpa using hv) (List.all_eq_true.1 hidf) (n := n) hesl (el := fun i => (l.map fun p => cellsOf p.2).getD i []) (fun i hi => by
          have : i < (l.map fun p => cellsOf p.2).length := by omega
          rw [List.getD_eq_getElem?_getD, List.getElem?_eq_getElem this]; rfl)
      exact ⟨_, _, _, _, _, _, hrun, hk, .frz (k0 n (Nat.le_refl _)), k2, k3, k4⟩
  by_cases hz : n * sz = 0
  · obtain ⟨cs', k1, k2, k3⟩ := key #[] (by simp [hz])
    refine fin cs' k2 k3 ?_
    have hlt : ¬ (n * sz > 2 ^ 24) := by omega
    simp only [Instr.buildSlice, Sem.run_bind, run_underlying s2, Result.andThen_ok, sizeOf, typeInfo, run_program, t1, Sem.run_pure, t3, hz]
    simp only [newRow]
    simp
    rw [Array.range_zero', Array.map_empty, k1]; simp
  · obtain ⟨cs', k1, k2, k3⟩ := key ((Array.range (n * sz)).map fun k => z2.cells[k % z2.cells.size]!) (by simp)
    refine fin cs' k2 k3 ?_
    have hlt : ¬ (n * sz > 2 ^ 24) := by omega
    simp only [Instr.buildSlice, Sem.run_bind, run_underlying s2, Result.andThen_ok, sizeOf, typeInfo, zeroValue, run_program, t1, t6, Sem.run_pure, t3, hlt, hz, if_false]
    simp [k1, newRow]
theorem makeSliceK_sound (ok : CxOK cx) (h : HRep w μ F H) (hg : GOK cx w F) {id : Id} {t : TypeId} {l c : AV} {x y : Value} {K : AV → HH → Prop} (hk : makeSliceK cx id t H K l c) (hl : Rep w μ F l x) (hc : Rep w μ F c y) :
    Yields cx w μ F H (Instr.makeSlice t x y) K := by
  unfold makeSliceK at hk
  split at hk
  rotate_left
  · exact hk.elim
  rename_i e n0 bs0 z0 ht
  split at hk
  rotate_left
  · exact hk.elim
  rename_i d sz bs z he
  unfold asInt at hk
  split at hk
  rotate_left
  · exact hk.elim
  rename_i k1 n1
  split at hk
  rotate_left
  · exact hk.elim
  rename_i k2 n2
  obtain ⟨rfl, hp1⟩ := Rep_lit hl
  obtain ⟨rfl, hp2⟩ := Rep_lit hc
  clear hp1 hp2
  split at hk
  rotate_left
  · exact hk.elim
  rename_i l c
  obtain ⟨⟨hlc, hcb, hcR⟩, hk⟩ := hk
  obtain ⟨hid, hk⟩ := fresh_iff hk
  obtain ⟨i1, d1, z1, s1, s2, s3, s4, s5, _⟩ := (ok.ty t _ ht).ok
  obtain ⟨i2, d2, z2, t1, t2, t3, t4, t5, t6, t7, t8, t9, t10, t11⟩ := (ok.ty e _ he).ok
  obtain rfl : d1 = .slice e := s5
  simp only at t3 t4 t8 t9
  have hzl : z2.cells.size = sz := by
    have := (t9 w F).length
    simp only [Array.length_toList] at this
    omega
  have hcm : c ≤ 9223372036854775807 := by simp only [R] at hcR; omega
  · have hrun := run_make (P := cx.P) w t e i2 z2 s2 t1 t6 k1 k2 (.ofNat l) (.ofNat c) (by simp) (by simpa using hlc) (by
        have h1 : i2.bytes * c ≤ 281474976710656 := by rw [t4, Nat.mul_comm]; simp only [R] at hcb; omega
        show (i2.bytes : Int) * (c : Int) ≤ 281474976710656
        rw [← Int.natCast_mul]; omega) (by show (c : Int) ≤ _; omega)
    have hel : ∀ x ∈ List.replicate c z, x.length = sz := fun x hx => by rw [(List.mem_replicate.1 hx).2]; exact t8
    have hfl := flatten_length hel
    simp only [List.length_replicate] at hfl
    have hdm : ∀ q, q < c * sz → q / sz < c ∧ q % sz < sz ∧ q / sz * sz + q % sz = q := by
      intro q hq
      by_cases hz : sz = 0
      · subst hz; simp at hq
      exact ⟨by rw [Nat.div_lt_iff_lt_mul (by omega)]; exact hq, Nat.mod_lt _ (by omega), by rw [Nat.mul_comm]; exact Nat.div_add_mod q sz⟩
    have hmade : ∀ q, q < c * sz → (madeCells z2.cells (c * i2.size))[q]? = z2.cells.toList[q % sz]? := by
      intro q hq
      obtain ⟨_, h2, _⟩ := hdm q hq
      simp only [madeCells, t3, hzl]
      rw [Array.getElem?_map, Array.getElem?_range]
      simp only [hq, if_true, Option.map_some]
      rw [getElem!_pos z2.cells (q % sz) (by omega), List.getElem?_eq_getElem (by simp; omega)]; simp
    obtain ⟨g1, g2, g3⟩ := h.layNew (cx := cx) hg hid (sz := sz) (bs := bs) (es := List.replicate c z) (c := madeCells z2.cells (c * i2.size)) (e := e) (fz := (0, 0)) (cap := c) (vs := (madeCells z2.cells (c * i2.size)).toList) (w1 := w) rfl rfl rfl rfl rfl
      (by simp) (by simpa using hcb) (by rw [size_madeCells, t3]; exact Nat.le_refl _) (fun _ _ _ h => by simp at h) hel (by
        refine .of_get (by rw [hfl, Array.length_toList, size_madeCells, t3]) fun q hq hq' => ?_
        rw [hfl] at hq
        obtain ⟨h1, h2, h3⟩ := hdm q hq
        have e1 := flatten_get hel (q / sz) (q % sz) (by simpa using h1) h2
        rw [h3, List.getElem?_eq_getElem (by rw [hfl]; exact hq)] at e1
        simp only [List.getElem_replicate] at e1
        rw [List.getElem?_eq_getElem (by omega)] at e1
        rw [Option.some.inj e1]
        have e2 := hmade q hq
        have h22 : q % sz < z2.cells.toList.length := by simp; omega
        rw [List.getElem?_eq_getElem h22, Array.getElem?_eq_getElem (by rw [size_madeCells, t3]; exact hq)] at e2
        simp only [Array.getElem_toList] at e2 ⊢
        rw [Option.some.inj e2]
        have := (t9 w F).get (q % sz) (by omega) h22
        simp only [Array.getElem_toList] at this
        exact .frz this) (fun u hu => by
        obtain ⟨q, hq, rfl⟩ := List.getElem_of_mem hu
        have hq2 : q < c * sz := by simpa [size_madeCells, t3] using hq
        obtain ⟨_, h2, _⟩ := hdm q hq2
        have e2 := hmade q hq2
        have h22 : q % sz < z2.cells.toList.length := by simp; omega
        rw [List.getElem?_eq_getElem h22, Array.getElem?_eq_getElem (by rw [size_madeCells, t3]; exact hq2)] at e2
        simp only [Array.getElem_toList]
        rw [Option.some.inj e2]; exact t10 _ (List.getElem_mem h22)) (fun k v hv => by simpa using hv)
    exact ⟨_, _, _, _, _, F, hrun, hk, .row (mput_same _ _ _) rfl rfl (.inr (by simp)) hlc (by simp) (by simp), g1, g2, g3⟩
end
end Go.Eng

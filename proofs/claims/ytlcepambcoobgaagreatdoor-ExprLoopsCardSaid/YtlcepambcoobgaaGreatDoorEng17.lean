/- Eng17: an engine for the program's code, and walks of its functions (Wcl La Lb Lc). -/
import Derived.Test.YtlcepambcoobgaaGreatDoorEng16
import Derived.Test.YtlcepambcoobgaaGreatDoorEng10
namespace Go.Eng
open Go.Proofs
set_option maxRecDepth 10000
theorem clone_spec : ∀ (n : Nat) (g : GV), SizeOf.sizeOf g < n → PSpec cxA 64 [.agg g.cells] (.ret (.agg g.cells)) := by
  intro n
  induction n with
  | zero => intro g h; exact absurd h (Nat.not_lt_zero _)
  | succ n ih =>
  intro g hg
  obtain ⟨kind, int, text, list, doc⟩ := g
  refine PSpec.of_WC cxA_ok Tryz.func64 rfl Tryz.call64 (Nat.le_of_ble_eq_true rfl) (g := 1) ?_
  conv => whnf
  repeat' ((first | refine RegP.enter ?_ | refine DrawP.range (by kernel_rfl) ?_ | refine BuildP.frz ⟨rfl, ?_⟩ | refine BoxP.row ?_ | refine And.intro (Nat.succ_pos _) ?_ | fail); conv => whnf)
  refine ⟨2, {i : Nat // i ≤ list.length}, fun i => ([(1, .ptr (1,1,0) 0 0), (2, .ptr (1,2,0) 0 0), (4, .lz (.gd doc)), (15, .lz (.gl list)), (16, .int list.length), (17, .int i.1)], [((1,1,0), .cells 5 80 [[.int kind, .int int, .str text, .row (2,0,0) 0 i.1 none, .nil]]), ((1,2,0), .cells 5 80 [[.int 0, .int 0, .str ⟨#[]⟩, .nil, .nil]]), ((2,0,0), .cells 5 80 ((list.take i.1).map GV.cells))]), fun i => list.length - i.1, ⟨⟨0, Nat.zero_le _⟩, Sub.of_check [((1,1,0), .old true (1,1,0)), ((1,2,0), .old true (1,2,0)), ((2,0,0), .new 5 80)] ?_ (by repeat' first | exact Gen0.emp | exact Gen0.ofH rfl | refine Gen0.put ?_ (by decide) | refine Gen0.put0 ?_ ⟨_, rfl⟩)⟩, fun ⟨i, hi⟩ => ?_⟩
  · conv => whnf
    (iterate 3 ((all_goals try (conv => whnf)); (repeat' first | exact ⟨⟩ | refine And.intro ?_ ?_ | rfl | exact fun _ h => h | exact .inl rfl | exact none_some | exact .inr in4 | fail)))
  conv => whnf
  refine RegP.go fun hf => ?_
  conv => whnf
  refine br (fun hl => ?_) (fun hl => ?_)
  · have hlt : i < list.length := by simpa using hl
    have hRl := hf.lz 15 _ _ _ _ _ _ rfl rfl
    try rw [hl]
    conv => whnf
    refine RegP.enter ?_
    conv => whnf
    refine And.intro (hlt) ?_
    conv => whnf
    refine And.intro (hlt) ?_
    conv => whnf
    repeat' ((first | refine RegP.enter ?_ | refine DrawP.range (by kernel_rfl) ?_ | refine BuildP.frz ⟨rfl, ?_⟩ | refine BoxP.row ?_ | refine And.intro (Nat.succ_pos _) ?_ | fail); conv => whnf)
    have hsm := GV.sizeOf_list (k := kind) (n := int) (t := text) (d := doc) (show list.getD i default ∈ list by simp [hlt])
    refine call_same (ih (list.getD i default) (by omega)) rfl ?_
    conv => whnf
    refine BuildP.row ?_
    conv => whnf
    refine AppP.grow ⟨⟨by simp; omega, Nat.le_trans (Nat.mul_le_mul_right _ hlt) hRl⟩, ?_⟩
    conv => whnf
    repeat' ((first | refine RegP.enter ?_ | refine DrawP.range (by kernel_rfl) ?_ | refine BuildP.frz ⟨rfl, ?_⟩ | refine BoxP.row ?_ | refine And.intro (Nat.succ_pos _) ?_ | fail); conv => whnf)
    refine ⟨⟨i + 1, hlt⟩, (by show list.length - (i + 1) < list.length - i; omega), Sub.of_check [((1,1,0), .old true (1,1,0)), ((1,2,0), .old true (1,2,0)), ((2,0,0), .old false (2,26,0))] ?_ (by repeat' first | exact Gen0.emp | exact Gen0.ofH rfl | refine Gen0.put ?_ (by decide) | refine Gen0.put0 ?_ ⟨_, rfl⟩)⟩
    conv => whnf
    (iterate 3 ((all_goals try (conv => whnf)); (repeat' first | exact ⟨⟩ | refine And.intro ?_ ?_ | rfl | exact fun _ h => h | exact .inl rfl | exact none_some | exact .inr in4 | fail)))
    all_goals first | exact wrap_succ hlt (le_of_mul (k := 79) hRl) | exact take_snoc GV.cells hlt | exact idfL_map idfL_cells _
  have hge : i = list.length := by
    have : ¬ i < list.length := by simpa using hl
    omega
  subst hge
  try rw [hl]
  conv => whnf
  repeat' ((first | refine RegP.enter ?_ | refine DrawP.range (by kernel_rfl) ?_ | refine BuildP.frz ⟨rfl, ?_⟩ | refine BoxP.row ?_ | refine And.intro (Nat.succ_pos _) ?_ | fail); conv => whnf)
  refine ⟨3, {i : Nat // i ≤ doc.length}, fun i => ([(1, .ptr (1,1,0) 0 0), (2, .ptr (1,2,0) 0 0), (29, .lz (.gd doc)), (30, .int doc.length), (31, .int i.1)], [((1,1,0), .cells 5 80 [[.int kind, .int int, .str text, .lz (.gl list), .row (3,0,0) 0 i.1 none]]), ((1,2,0), .cells 5 80 [[.int 0, .int 0, .str ⟨#[]⟩, .nil, .nil]]), ((3,0,0), .cells 6 96 ((doc.take i.1).map fcells))]), fun i => doc.length - i.1, ⟨⟨0, Nat.zero_le _⟩, Sub.of_check [((1,1,0), .old true (1,1,0)), ((1,2,0), .old true (1,2,0)), ((3,0,0), .new 6 96)] ?_ (by repeat' first | exact Gen0.emp | exact Gen0.ofH rfl | refine Gen0.put ?_ (by decide) | refine Gen0.put0 ?_ ⟨_, rfl⟩)⟩, fun ⟨i, hi⟩ => ?_⟩
  · conv => whnf
    (iterate 3 ((all_goals try (conv => whnf)); (repeat' first | exact ⟨⟩ | refine And.intro ?_ ?_ | rfl | exact fun _ h => h | exact .inl rfl | exact none_some | exact .inr in4 | fail)))
    all_goals first | (simp; done) | exact frz_map idfL_cells (Nat.le_refl _)
  conv => whnf
  refine RegP.go fun hf => ?_
  conv => whnf
  refine br (fun hl2 => ?_) (fun hl2 => ?_)
  · have hlt : i < doc.length := by simpa using hl2
    have hRl := hf.lz 29 _ _ _ _ _ _ rfl rfl
    try rw [hl2]
    conv => whnf
    refine RegP.enter ?_
    conv => whnf
    refine And.intro (hlt) ?_
    conv => whnf
    refine And.intro (hlt) ?_
    conv => whnf
    repeat' ((first | refine RegP.enter ?_ | refine DrawP.range (by kernel_rfl) ?_ | refine BuildP.frz ⟨rfl, ?_⟩ | refine BoxP.row ?_ | refine And.intro (Nat.succ_pos _) ?_ | fail); conv => whnf)
    have hsm := GV.sizeOf_doc (k := kind) (n := int) (t := text) (l := list) (show doc.getD i default ∈ doc by simp [hlt])
    refine call_same (ih (doc.getD i default).2 (by omega)) rfl ?_
    conv => whnf
    refine BuildP.row ?_
    conv => whnf
    refine AppP.grow ⟨⟨by simp; omega, Nat.le_trans (Nat.mul_le_mul_right _ hlt) hRl⟩, ?_⟩
    conv => whnf
    repeat' ((first | refine RegP.enter ?_ | refine DrawP.range (by kernel_rfl) ?_ | refine BuildP.frz ⟨rfl, ?_⟩ | refine BoxP.row ?_ | refine And.intro (Nat.succ_pos _) ?_ | fail); conv => whnf)
    refine ⟨⟨i + 1, hlt⟩, (by show doc.length - (i + 1) < doc.length - i; omega), Sub.of_check [((1,1,0), .old true (1,1,0)), ((1,2,0), .old true (1,2,0)), ((3,0,0), .old false (3,44,0))] ?_ (by repeat' first | exact Gen0.emp | exact Gen0.ofH rfl | refine Gen0.put ?_ (by decide) | refine Gen0.put0 ?_ ⟨_, rfl⟩)⟩
    conv => whnf
    (iterate 3 ((all_goals try (conv => whnf)); (repeat' first | exact ⟨⟩ | refine And.intro ?_ ?_ | rfl | exact fun _ h => h | exact .inl rfl | exact none_some | exact .inr in4 | fail)))
    all_goals first | exact wrap_succ hlt (le_of_mul (k := 95) hRl) | exact take_snoc fcells hlt | exact idfL_map idfL_fcells _
  have hge : i = doc.length := by
    have : ¬ i < doc.length := by simpa using hl2
    omega
  subst hge
  try rw [hl2]
  conv => whnf
  repeat' ((first | refine RegP.enter ?_ | refine DrawP.range (by kernel_rfl) ?_ | refine BuildP.frz ⟨rfl, ?_⟩ | refine BoxP.row ?_ | refine And.intro (Nat.succ_pos _) ?_ | fail); conv => whnf)
  refine Ent.of_check ?_ rfl
  conv => whnf
  (iterate 3 ((all_goals try (conv => whnf)); (repeat' first | exact ⟨⟩ | refine And.intro ?_ ?_ | rfl | exact fun _ h => h | exact .inl rfl | exact none_some | exact .inr in4 | fail)))
  all_goals first | (simp; done) | exact frz_map idfL_fcells (Nat.le_refl _)
theorem clone_ok (g : GV) : PSpec cxA 64 [.agg g.cells] (.ret (.agg g.cells)) := clone_spec _ g (Nat.lt_succ_self _)
mutual
theorem renAV_idf (m : Id → Id) : ∀ v : AV, idf v = true → renAV m v = v
  | .lit _, _ => rfl
  | .top, _ => rfl
  | .fsl .., _ => rfl
  | .fptr .., _ => rfl
  | .lz _, _ => rfl
  | .row .., h => by cases h
  | .ptr .., h => by cases h
  | .mref _, h => by cases h
  | .clo fn a b, h => by
    simp only [idf, Bool.and_eq_true] at h
    show AV.clo fn (renL m a) (renL m b) = _
    rw [renL_idf m a h.1, renL_idf m b h.2]
  | .ifc t v, h => by
    show AV.ifc t (renAV m v) = _
    rw [renAV_idf m v h]
  | .agg l, h => by
    show AV.agg (renL m l) = _
    rw [renL_idf m l h]
  | .tup l, h => by
    show AV.tup (renL m l) = _
    rw [renL_idf m l h]
theorem renL_idf (m : Id → Id) : ∀ l : List AV, idfL l = true → renL m l = l
  | [], _ => rfl
  | a :: l, h => by
    simp only [idfL, idf.idfL, Bool.and_eq_true] at h
    show renAV m a :: renL m l = _
    rw [renAV_idf m a h.1, renL_idf m l h.2]
end
theorem renLL_map {α : Type} {f : α → List AV} (hf : ∀ a, idfL (f a) = true) (m : Id → Id) (l : List α) : renLL m (l.map f) = l.map f := by
  rw [renLL_eq, List.map_map]
  exact List.map_congr_left fun a _ => renL_idf m _ (hf a)
def retNd : P3 Nd → Out
  | .yes x => .ret x.av
  | _ => .ret (.lit .nilIface)
theorem goodM_list {g : GV} (h : goodM g = true) : goodL g.list = true := by
  obtain ⟨k, n, t, l, d⟩ := g
  simp only [goodM, Bool.and_eq_true] at h; exact h.1.2
theorem goodM_doc {g : GV} (h : goodM g = true) : goodD g.doc = true := by
  obtain ⟨k, n, t, l, d⟩ := g
  simp only [goodM, Bool.and_eq_true] at h; exact h.2
theorem goodM_text {g : GV} (h : goodM g = true) : g.text.size ≤ 65536 := by
  obtain ⟨k, n, t, l, d⟩ := g
  simp only [goodM, Bool.and_eq_true, decide_eq_true_eq] at h; exact h.1.1
end Go.Eng
namespace Go.Eng
open Go.Proofs
set_option maxRecDepth 10000
def getOut (o : Option GV) : List AV := match o with | some g => [.agg g.cells, .bool true] | none => [.agg gZero.cells, .bool false]
theorem findF_drop {n : ByteArray} {d : List (ByteArray × GV)} {i : Nat} (h : i < d.length) : findF n (d.drop i) = (match decide ((d.getD i default).1 = n) with | true => some (d.getD i default).2 | false => findF n (d.drop (i + 1))) := by
  have e : d.getD i default = d[i] := by simp [h]
  rw [List.drop_eq_getElem_cons h, e]
  generalize d[i] = f
  obtain ⟨m, g⟩ := f
  rw [findF]; rfl
theorem get_ok (v : GV) (n : ByteArray) : PSpec cxA 234 [.agg v.cells, .str n] (.ret (.tup (getOut (v.get n)))) := by
  obtain ⟨k, i0, t, l, d⟩ := v
  generalize hr : getOut ((GV.mk k i0 t l d).get n) = r
  unfold GV.get at hr
  refine PSpec.of_WC cxA_ok Tryz.func234 rfl Tryz.call234 (Nat.le_of_ble_eq_true rfl) (g := 1) ?_
  conv => whnf
  refine RegP.enter ?_
  conv => whnf
  refine BoxP.frz ⟨rfl, ?_⟩
  conv => whnf
  repeat' ((first | refine RegP.enter ?_ | refine DrawP.range (by kernel_rfl) ?_ | refine BuildP.frz ⟨rfl, ?_⟩ | refine BoxP.row ?_ | refine And.intro (Nat.succ_pos _) ?_ | fail); conv => whnf)
  refine br (fun hk => ?_) (fun hk => ?_)
  · have e : decide ((GV.mk k i0 t l d).kind = 5) = true := by simpa using hk
    rw [e] at hr
    replace hr : getOut (findF n d) = r := hr
    try rw [hk]
    conv => whnf
    repeat' ((first | refine RegP.enter ?_ | refine DrawP.range (by kernel_rfl) ?_ | refine BuildP.frz ⟨rfl, ?_⟩ | refine BoxP.row ?_ | refine And.intro (Nat.succ_pos _) ?_ | fail); conv => whnf)
    refine ⟨2, {i : Nat // i ≤ d.length ∧ getOut (findF n (d.drop i)) = r}, fun i => ([(1, .str n), (4, .ptr (1,4,0) 0 0), (12, .lz (.gd d)), (13, .int d.length), (14, .int i.1)], [((1,4,0), .cells 5 80 [[.int 0, .int 0, .str ⟨#[]⟩, .nil, .nil]])]), fun i => d.length - i.1, ⟨⟨0, Nat.zero_le _, hr⟩, Sub.of_check [((1,4,0), .old true (1,4,0))] ?_ (by repeat' first | exact Gen0.emp | exact Gen0.ofH rfl | refine Gen0.put ?_ (by decide) | refine Gen0.put0 ?_ ⟨_, rfl⟩)⟩, fun ⟨i, hi, hia⟩ => ?_⟩
    · conv => whnf
      (iterate 3 ((all_goals try (conv => whnf)); (repeat' first | exact ⟨⟩ | refine And.intro ?_ ?_ | rfl | exact fun _ h => h | exact .inl rfl | exact none_some | exact .inr in4 | fail)))
    conv => whnf
    refine RegP.go fun hf => ?_
    conv => whnf
    refine br (fun hl => ?_) (fun hl => ?_)
    · have hlt : i < d.length := Int.ofNat_lt.1 (of_decide_eq_true hl)
      have hRl := hf.lz 12 _ _ _ _ _ _ rfl rfl
      rw [findF_drop hlt] at hia
      try rw [hl]
      conv => whnf
      repeat' ((first | refine RegP.enter ?_ | refine DrawP.range (by kernel_rfl) ?_ | refine BuildP.frz ⟨rfl, ?_⟩ | refine BoxP.row ?_ | refine And.intro (Nat.succ_pos _) ?_ | fail); conv => whnf)
      refine And.intro (hlt) ?_
      conv => whnf
      refine And.intro (hlt) ?_
      conv => whnf
      repeat' ((first | refine RegP.enter ?_ | refine DrawP.range (by kernel_rfl) ?_ | refine BuildP.frz ⟨rfl, ?_⟩ | refine BoxP.row ?_ | refine And.intro (Nat.succ_pos _) ?_ | fail); conv => whnf)
      generalize d.getD i default = f at *
      obtain ⟨m, g⟩ := f
      conv => whnf
      refine br (fun hm => ?_) (fun hm => ?_)
      · have e2 : decide (m = n) = true := hm
        simp only [e2] at hia
        replace hia : getOut (some g) = r := hia
        subst hia
        try rw [hm]
        conv => whnf
        repeat' ((first | refine RegP.enter ?_ | refine DrawP.range (by kernel_rfl) ?_ | refine BuildP.frz ⟨rfl, ?_⟩ | refine BoxP.row ?_ | refine And.intro (Nat.succ_pos _) ?_ | refine call_same (clone_ok g) rfl ?_ | fail); conv => whnf)
        refine Ent.of_check ?_ rfl
        conv => whnf
        (iterate 3 ((all_goals try (conv => whnf)); (repeat' first | exact ⟨⟩ | refine And.intro ?_ ?_ | rfl | exact fun _ h => h | exact .inl rfl | exact none_some | exact .inr in4 | fail)))
      · have e2 : decide (m = n) = false := hm
        simp only [e2] at hia
        try rw [hm]
        conv => whnf
        repeat' ((first | refine RegP.enter ?_ | refine DrawP.range (by kernel_rfl) ?_ | refine BuildP.frz ⟨rfl, ?_⟩ | refine BoxP.row ?_ | refine And.intro (Nat.succ_pos _) ?_ | fail); conv => whnf)
        refine ⟨⟨i + 1, hlt, hia⟩, (by show d.length - (i + 1) < d.length - i; omega), Sub.of_check [((1,4,0), .old true (1,4,0))] ?_ (by repeat' first | exact Gen0.emp | exact Gen0.ofH rfl | refine Gen0.put ?_ (by decide) | refine Gen0.put0 ?_ ⟨_, rfl⟩)⟩
        conv => whnf
        (iterate 3 ((all_goals try (conv => whnf)); (repeat' first | exact ⟨⟩ | refine And.intro ?_ ?_ | rfl | exact fun _ h => h | exact .inl rfl | exact none_some | exact .inr in4 | fail)))
        all_goals first | exact wrap_succ hlt (le_of_mul (k := 95) hRl) | trace_state
    have hge : i = d.length := by
      have h' : ¬ ((i : Int) < ((d.length : Nat) : Int)) := of_decide_eq_false hl
      have : i ≤ d.length := hi
      omega
    subst hge
    rw [List.drop_length] at hia
    replace hia : getOut none = r := hia
    subst hia
    try rw [hl]
    conv => whnf
    repeat' ((first | refine RegP.enter ?_ | refine DrawP.range (by kernel_rfl) ?_ | refine BuildP.frz ⟨rfl, ?_⟩ | refine BoxP.row ?_ | refine And.intro (Nat.succ_pos _) ?_ | fail); conv => whnf)
    refine Ent.of_check ?_ rfl
    conv => whnf
    (iterate 3 ((all_goals try (conv => whnf)); (repeat' first | exact ⟨⟩ | refine And.intro ?_ ?_ | rfl | exact fun _ h => h | exact .inl rfl | exact none_some | exact .inr in4 | fail)))
  · have e : decide ((GV.mk k i0 t l d).kind = 5) = false := by simpa using hk
    rw [e] at hr
    replace hr : getOut none = r := hr
    subst hr
    try rw [hk]
    conv => whnf
    repeat' ((first | refine RegP.enter ?_ | refine DrawP.range (by kernel_rfl) ?_ | refine BuildP.frz ⟨rfl, ?_⟩ | refine BoxP.row ?_ | refine And.intro (Nat.succ_pos _) ?_ | fail); conv => whnf)
    refine Ent.of_check ?_ rfl
    conv => whnf
    (iterate 3 ((all_goals try (conv => whnf)); (repeat' first | exact ⟨⟩ | refine And.intro ?_ ?_ | rfl | exact fun _ h => h | exact .inl rfl | exact none_some | exact .inr in4 | fail)))
end Go.Eng
namespace Go.Eng
open Go.Proofs
set_option maxRecDepth 10000
noncomputable def b235 : Code := Tryz.f235.body.getD .skip
theorem under98 : Tryz.prog.underlying 98 = some (.slice 9) := by kernel_rfl
abbrev strs (l : List ByteArray) : List (List AV) := l.map fun s => [.str s]
theorem idfL_strs : ∀ s : ByteArray, idfL ((fun s => [.str s]) s : List AV) = true := fun _ => rfl
theorem range_strs (names : List ByteArray) : (List.range names.length).map (fun i => [(AV.str (names.getD i default))]) = strs names := by
  apply List.ext_getElem
  · simp
  · intro i h1 h2
    simp only [List.length_map, List.length_range] at h1
    simp [h1]
abbrev CloneI (names : List ByteArray) := { b : Bool // b = true → names = [] }
theorem cloneN_ok (names : List ByteArray) : MSpec cxA 235 [.lz (.gs names)] [] (fun x : CloneI names => match x.1 with | true => .ret .nil | false => .ret (.row (1,0,0) 0 names.length none)) (fun x => match x.1 with | true => [] | false => [((1,0,0), .cells 1 16 (strs names))]) := by
  refine MSpec.of_WC cxA_ok Tryz.func235 rfl Tryz.call235 (Nat.le_of_ble_eq_true rfl) (g := 1) ?_
  conv => whnf
  refine RegP.enter ?_
  conv => whnf
  conv => whnf
  refine RegP.raw (nil_region (d := .gs names) rfl rfl rfl rfl rfl rfl rfl under98 (by decide) (by decide) rfl fun b hb => ?_)
  cases b
  · conv => whnf
    refine RegP.go fun hf => ?_
    conv => whnf
    refine BuildP.row ?_
    conv => whnf
    have hR := hf.lz 0 _ _ _ _ _ _ rfl rfl
    refine AppP.grow ⟨⟨by simp, by rw [Nat.zero_add]; exact hR⟩, ?_⟩
    conv => whnf
    repeat' ((first | refine RegP.enter ?_ | refine DrawP.range (by kernel_rfl) ?_ | refine BuildP.frz ⟨rfl, ?_⟩ | refine BoxP.row ?_ | refine And.intro (Nat.succ_pos _) ?_ | fail); conv => whnf)
    refine ⟨⟨false, fun h => by cases h⟩, .row (1,0,0) 0 names.length none, rfl, Sub.of_check [((1,0,0), .old false (1,7,0))] ?_ (by repeat' first | exact Gen0.emp | exact Gen0.ofH rfl | refine Gen0.put ?_ (by decide) | refine Gen0.put0 ?_ ⟨_, rfl⟩)⟩
    conv => whnf
    (iterate 3 ((all_goals try (conv => whnf)); (repeat' first | exact ⟨⟩ | refine And.intro ?_ ?_ | rfl | exact fun _ h => h | exact .inl rfl | exact none_some | exact .inr in4 | fail)))
    all_goals first | exact Nat.zero_add _ | exact (List.nil_append _).trans (range_strs names) | exact idfL_map idfL_strs _ | trace_state
  · have hn : names.length = 0 := hb rfl _ _ _ _ _ rfl
    have hn : names = [] := List.eq_nil_of_length_eq_zero hn
    conv => whnf
    repeat' ((first | refine RegP.enter ?_ | refine DrawP.range (by kernel_rfl) ?_ | refine BuildP.frz ⟨rfl, ?_⟩ | refine BoxP.row ?_ | refine And.intro (Nat.succ_pos _) ?_ | fail); conv => whnf)
    refine ⟨⟨true, fun _ => hn⟩, .nil, rfl, Sub.of_check [] ?_ (by repeat' first | exact Gen0.emp | exact Gen0.ofH rfl | refine Gen0.put ?_ (by decide) | refine Gen0.put0 ?_ ⟨_, rfl⟩)⟩
    conv => whnf
    (iterate 3 ((all_goals try (conv => whnf)); (repeat' first | exact ⟨⟩ | refine And.intro ?_ ?_ | rfl | exact fun _ h => h | exact .inl rfl | exact none_some | exact .inr in4 | fail)))
end Go.Eng
namespace Go.Eng
open Go.Proofs
set_option maxRecDepth 10000
set_option maxHeartbeats 4000000
theorem findF_good {n : ByteArray} {x : GV} : ∀ {d : List (ByteArray × GV)}, findF n d = some x → goodD d = true → goodM x = true
  | [], h, _ => by cases h
  | (m, g) :: d, h, hd => by
    simp only [goodD, Bool.and_eq_true] at hd
    unfold findF at h
    split at h
    · cases h; exact hd.1.2
    · exact findF_good h hd.2
theorem get_good {v x : GV} {n : ByteArray} (h : v.get n = some x) (hg : goodM v = true) : goodM x = true := by
  unfold GV.get at h
  split at h
  · exact findF_good h (goodM_doc hg)
  · cases h
theorem app_strs (m : Id → Id) (names : List ByteArray) (q : ByteArray) : List.take names.length (List.drop 0 (renLL m (strs names))) ++ List.map (fun i => [cellsOf (AV.lit (Value.string ([q].getD 0 default)))].getD i []) (List.range (0 + 1)) = strs (names ++ [q]) := by
  rw [renLL_map idfL_strs, List.drop_zero, List.take_of_length_le (by simp)]
  show _ = List.map _ (names ++ [q])
  rw [List.map_append]; rfl
theorem an1 (names : List ByteArray) (q : ByteArray) : names.length + (0 + 1) = (names ++ [q]).length := by simp
theorem an2 (m : Id → Id) (names : List ByteArray) (q : ByteArray) : (0 + (names.length + (0 + 1))).le (List.take names.length (List.drop 0 (renLL m (strs names))) ++ List.map (fun i => [cellsOf (AV.lit (Value.string ([q].getD 0 default)))].getD i []) (List.range (0 + 1))).length := by
  rw [app_strs, Nat.zero_add]
  exact Nat.le_of_eq (by simp)
theorem an3 (m : Id → Id) (names : List ByteArray) (q : ByteArray) : ∀ i, i < names.length + (0 + 1) → (List.take names.length (List.drop 0 (renLL m (strs names))) ++ List.map (fun i => [cellsOf (AV.lit (Value.string ([q].getD 0 default)))].getD i []) (List.range (0 + 1))).getD (0 + i) [] = (fun i => [AV.lit (Value.string ((names ++ [q]).getD i default))]) i ∧ idfL ((fun i => [AV.lit (Value.string ((names ++ [q]).getD i default))]) i) = true := by
  rw [app_strs]
  intro i hi
  exact frz_all idfL_strs (names ++ [q]) i (by simpa using hi)
theorem bn1 {names : List ByteArray} (h : names = []) (q : ByteArray) : 0 + 1 = (names ++ [q]).length := by rw [h]; rfl
theorem bn3 {names : List ByteArray} (h : names = []) (q : ByteArray) : ∀ i, i < 0 + 1 → (List.map (fun i => [cellsOf (AV.lit (Value.string ([q].getD 0 default)))].getD i []) (List.range (0 + 1))).getD (0 + i) [] = (fun i => [AV.lit (Value.string ((names ++ [q]).getD i default))]) i ∧ idfL ((fun i => [AV.lit (Value.string ((names ++ [q]).getD i default))]) i) = true := by
  rw [h]
  intro i hi
  obtain rfl : i = 0 := by omega
  exact ⟨rfl, rfl⟩
theorem loop_map {p : List ByteArray → GV → P3 Nd} (hp : ParseOk p) (names : List ByteArray) (v : GV) (hnl : names.length ≤ 1000) (hg : goodM v = true) (hu : loopF p names oMap v ≠ .unk) : PSpec cxA 178 [.lz (.gs names), .str oMap, .agg v.cells] (retNd (loopF p names oMap v)) := by
  generalize hr : loopF p names oMap v = r at hu
  have g1 := get_ok v sInput
  have g2 := get_ok v sIn
  have g3 := get_ok v sAs
  unfold loopF at hr
  refine PSpec.of_WC cxA_ok Tryz.func178 rfl Tryz.call178 (Nat.le_of_ble_eq_true rfl) (g := 1) ?_
  conv => whnf
  refine RegP.enter ?_
  conv => whnf
  refine BoxP.frz ⟨rfl, ?_⟩
  conv => whnf
  cases h5 : (v.kind != 5)
  rotate_left
  · have e : decide (v.kind = 5) = false := by simpa using h5
    rw [e] at hr
    replace hr : .no = r := hr
    subst hr
    repeat' ((first | refine RegP.enter ?_ | refine DrawP.range (by kernel_rfl) ?_ | refine BuildP.frz ⟨rfl, ?_⟩ | refine BoxP.row ?_ | refine And.intro (Nat.succ_pos _) ?_ | rw [h5] | fail); conv => whnf)
    refine Ent.of_check ?_ rfl
    conv => whnf
    (iterate 3 ((all_goals try (conv => whnf)); (repeat' first | exact ⟨⟩ | refine And.intro ?_ ?_ | rfl | exact fun _ h => h | exact .inl rfl | exact none_some | exact .inr in4 | fail)))
  have e5 : decide (v.kind = 5) = true := by simpa using h5
  cases h3 : (((v.doc.length : Nat) : Int) != 3)
  rotate_left
  · have e : decide (v.doc.length = 3) = false := by simp at h3 ⊢; omega
    rw [e5, e] at hr
    replace hr : .no = r := hr
    subst hr
    repeat' ((first | refine RegP.enter ?_ | refine DrawP.range (by kernel_rfl) ?_ | refine BuildP.frz ⟨rfl, ?_⟩ | refine BoxP.row ?_ | refine And.intro (Nat.succ_pos _) ?_ | rw [h5] | rw [h3] | fail); conv => whnf)
    refine Ent.of_check ?_ rfl
    conv => whnf
    (iterate 3 ((all_goals try (conv => whnf)); (repeat' first | exact ⟨⟩ | refine And.intro ?_ ?_ | rfl | exact fun _ h => h | exact .inl rfl | exact none_some | exact .inr in4 | fail)))
  have e3 : decide (v.doc.length = 3) = true := by simp at h3 ⊢; omega
  rw [e5, e3] at hr
  replace hr : (match v.get sInput, v.get sIn with
      | some over, some body => match p names over with
        | .unk => .unk
        | ov => match v.get sAs with
            | none => .no
            | some sv => match decide (sv.kind = 4), splitM sv.text with
              | true, some [q] => match decide (q = sRoot) with
                | true => .no
                | false => match p (names ++ [q]) body, ov with
                  | .unk, _ => .unk
                  | .yes b, .yes o => .yes (.loop oMap q o none b)
                  | _, _ => .no
              | _, _ => .no
      | _, _ => .no) = r := hr
  cases hov : v.get sInput with
  | none =>
    rw [hov] at hr g1
    replace hr : .no = r := hr
    subst hr
    cases hbv : v.get sIn with
    | none =>
      rw [hbv] at g2
      repeat' ((first | refine RegP.enter ?_ | refine DrawP.range (by kernel_rfl) ?_ | refine BuildP.frz ⟨rfl, ?_⟩ | refine BoxP.row ?_ | refine And.intro (Nat.succ_pos _) ?_ | refine call_same (g1) rfl ?_ | refine call_same (g2) rfl ?_ | rw [h5] | rw [h3] | fail); conv => whnf)
      refine Ent.of_check ?_ rfl
      conv => whnf
      (iterate 3 ((all_goals try (conv => whnf)); (repeat' first | exact ⟨⟩ | refine And.intro ?_ ?_ | rfl | exact fun _ h => h | exact .inl rfl | exact none_some | exact .inr in4 | fail)))
    | some body =>
      rw [hbv] at g2
      repeat' ((first | refine RegP.enter ?_ | refine DrawP.range (by kernel_rfl) ?_ | refine BuildP.frz ⟨rfl, ?_⟩ | refine BoxP.row ?_ | refine And.intro (Nat.succ_pos _) ?_ | refine call_same (g1) rfl ?_ | refine call_same (g2) rfl ?_ | rw [h5] | rw [h3] | fail); conv => whnf)
      refine Ent.of_check ?_ rfl
      conv => whnf
      (iterate 3 ((all_goals try (conv => whnf)); (repeat' first | exact ⟨⟩ | refine And.intro ?_ ?_ | rfl | exact fun _ h => h | exact .inl rfl | exact none_some | exact .inr in4 | fail)))
  | some over =>
  cases hbv : v.get sIn with
  | none =>
    rw [hov] at g1
    rw [hbv] at g2
    rw [hov, hbv] at hr
    replace hr : .no = r := hr
    subst hr
    repeat' ((first | refine RegP.enter ?_ | refine DrawP.range (by kernel_rfl) ?_ | refine BuildP.frz ⟨rfl, ?_⟩ | refine BoxP.row ?_ | refine And.intro (Nat.succ_pos _) ?_ | refine call_same (g1) rfl ?_ | refine call_same (g2) rfl ?_ | rw [h5] | rw [h3] | fail); conv => whnf)
    refine Ent.of_check ?_ rfl
    conv => whnf
    (iterate 3 ((all_goals try (conv => whnf)); (repeat' first | exact ⟨⟩ | refine And.intro ?_ ?_ | rfl | exact fun _ h => h | exact .inl rfl | exact none_some | exact .inr in4 | fail)))
  | some body =>
  rw [hov] at g1
  rw [hbv] at g2
  rw [hov, hbv] at hr
  dsimp only at hr
  have hgb := get_good hbv hg
  have hpo := hp names over (get_good hov hg)
  have hclone := cloneN_ok names
  cases ho : p names over
  case unk => rw [ho] at hr; exact absurd hr.symm hu
  case' no =>
    have hlo := hpo.1 ho
    let OV : AV := .lit .nilIface
  case' yes o =>
    have hlo := hpo.2 o ho
    let OV : AV := .ifc o.ty o.val
  all_goals
    rw [ho] at hr
    dsimp only at hr
    repeat' ((first | refine RegP.enter ?_ | refine DrawP.range (by kernel_rfl) ?_ | refine BuildP.frz ⟨rfl, ?_⟩ | refine BoxP.row ?_ | refine And.intro (Nat.succ_pos _) ?_ | refine call_same (g1) rfl ?_ | refine call_same (g2) rfl ?_ | refine call_same (hlo) rfl ?_ | rw [h5] | rw [h3] | fail); conv => whnf)
    refine call_mm [] 1 54 (hclone) ?_ ?_ ?_
    · conv => whnf
      (iterate 3 ((all_goals try (conv => whnf)); (repeat' first | exact ⟨⟩ | refine And.intro ?_ ?_ | rfl | exact fun _ h => h | exact .inl rfl | exact none_some | exact .inr in4 | fail)))
    · rintro ⟨b, hb⟩
      cases b
      · conv => whnf
        (iterate 3 ((all_goals try (conv => whnf)); (repeat' first | exact ⟨⟩ | refine And.intro ?_ ?_ | rfl | exact fun _ h => h | exact .inl rfl | exact none_some | exact .inr in4 | fail)))
      · conv => whnf
        (iterate 3 ((all_goals try (conv => whnf)); (repeat' first | exact ⟨⟩ | refine And.intro ?_ ?_ | rfl | exact fun _ h => h | exact .inl rfl | exact none_some | exact .inr in4 | fail)))
    rintro ⟨b, hb⟩
    conv => whnf
    cases hsv : v.get sAs with
    | none =>
      rw [hsv] at hr g3
      replace hr : .no = r := hr
      subst hr
      have hsp := psplit_ok ⟨#[]⟩ (by decide)
      rw [show splitM ⟨#[]⟩ = none from rfl] at hsp
      cases b
      · conv => whnf
        repeat' ((first | refine RegP.enter ?_ | refine DrawP.range (by kernel_rfl) ?_ | refine BuildP.frz ⟨rfl, ?_⟩ | refine BoxP.row ?_ | refine And.intro (Nat.succ_pos _) ?_ | refine call_same (g3) rfl ?_ | refine call_same (hsp) rfl ?_ | fail); conv => whnf)
        refine Ent.of_check ?_ rfl
        conv => whnf
        (iterate 3 ((all_goals try (conv => whnf)); (repeat' first | exact ⟨⟩ | refine And.intro ?_ ?_ | rfl | exact fun _ h => h | exact .inl rfl | exact none_some | exact .inr in4 | fail)))
      · conv => whnf
        repeat' ((first | refine RegP.enter ?_ | refine DrawP.range (by kernel_rfl) ?_ | refine BuildP.frz ⟨rfl, ?_⟩ | refine BoxP.row ?_ | refine And.intro (Nat.succ_pos _) ?_ | refine call_same (g3) rfl ?_ | refine call_same (hsp) rfl ?_ | fail); conv => whnf)
        refine Ent.of_check ?_ rfl
        conv => whnf
        (iterate 3 ((all_goals try (conv => whnf)); (repeat' first | exact ⟨⟩ | refine And.intro ?_ ?_ | rfl | exact fun _ h => h | exact .inl rfl | exact none_some | exact .inr in4 | fail)))
    | some sv =>
      rw [hsv] at hr g3
      dsimp only at hr
      have hgs := get_good hsv hg
      have hsp := psplit_ok sv.text (by have := goodM_text hgs; omega)
      cases hk4 : (sv.kind != 4)
      rotate_left
      · have e : decide (sv.kind = 4) = false := by simpa using hk4
        rw [e] at hr
        replace hr : .no = r := hr
        subst hr
        cases hsx : splitM sv.text with
        | none =>
          rw [hsx] at hsp
          cases b
          · conv => whnf
            repeat' ((first | refine RegP.enter ?_ | refine DrawP.range (by kernel_rfl) ?_ | refine BuildP.frz ⟨rfl, ?_⟩ | refine BoxP.row ?_ | refine And.intro (Nat.succ_pos _) ?_ | refine call_same (g3) rfl ?_ | refine call_same (hsp) rfl ?_ | rw [hk4] | fail); conv => whnf)
            refine Ent.of_check ?_ rfl
            conv => whnf
            (iterate 3 ((all_goals try (conv => whnf)); (repeat' first | exact ⟨⟩ | refine And.intro ?_ ?_ | rfl | exact fun _ h => h | exact .inl rfl | exact none_some | exact .inr in4 | fail)))
          · conv => whnf
            repeat' ((first | refine RegP.enter ?_ | refine DrawP.range (by kernel_rfl) ?_ | refine BuildP.frz ⟨rfl, ?_⟩ | refine BoxP.row ?_ | refine And.intro (Nat.succ_pos _) ?_ | refine call_same (g3) rfl ?_ | refine call_same (hsp) rfl ?_ | rw [hk4] | fail); conv => whnf)
            refine Ent.of_check ?_ rfl
            conv => whnf
            (iterate 3 ((all_goals try (conv => whnf)); (repeat' first | exact ⟨⟩ | refine And.intro ?_ ?_ | rfl | exact fun _ h => h | exact .inl rfl | exact none_some | exact .inr in4 | fail)))
        | some qs =>
          rw [hsx] at hsp
          cases b
          · conv => whnf
            repeat' ((first | refine RegP.enter ?_ | refine DrawP.range (by kernel_rfl) ?_ | refine BuildP.frz ⟨rfl, ?_⟩ | refine BoxP.row ?_ | refine And.intro (Nat.succ_pos _) ?_ | refine call_same (g3) rfl ?_ | refine call_same (hsp) rfl ?_ | rw [hk4] | fail); conv => whnf)
            refine Ent.of_check ?_ rfl
            conv => whnf
            (iterate 3 ((all_goals try (conv => whnf)); (repeat' first | exact ⟨⟩ | refine And.intro ?_ ?_ | rfl | exact fun _ h => h | exact .inl rfl | exact none_some | exact .inr in4 | fail)))
          · conv => whnf
            repeat' ((first | refine RegP.enter ?_ | refine DrawP.range (by kernel_rfl) ?_ | refine BuildP.frz ⟨rfl, ?_⟩ | refine BoxP.row ?_ | refine And.intro (Nat.succ_pos _) ?_ | refine call_same (g3) rfl ?_ | refine call_same (hsp) rfl ?_ | rw [hk4] | fail); conv => whnf)
            refine Ent.of_check ?_ rfl
            conv => whnf
            (iterate 3 ((all_goals try (conv => whnf)); (repeat' first | exact ⟨⟩ | refine And.intro ?_ ?_ | rfl | exact fun _ h => h | exact .inl rfl | exact none_some | exact .inr in4 | fail)))
      have e4 : decide (sv.kind = 4) = true := by simpa using hk4
      rw [e4] at hr
      cases hsx : splitM sv.text with
      | none =>
        rw [hsx] at hsp hr
        replace hr : .no = r := hr
        subst hr
        cases b
        · conv => whnf
          repeat' ((first | refine RegP.enter ?_ | refine DrawP.range (by kernel_rfl) ?_ | refine BuildP.frz ⟨rfl, ?_⟩ | refine BoxP.row ?_ | refine And.intro (Nat.succ_pos _) ?_ | refine call_same (g3) rfl ?_ | refine call_same (hsp) rfl ?_ | rw [hk4] | fail); conv => whnf)
          refine Ent.of_check ?_ rfl
          conv => whnf
          (iterate 3 ((all_goals try (conv => whnf)); (repeat' first | exact ⟨⟩ | refine And.intro ?_ ?_ | rfl | exact fun _ h => h | exact .inl rfl | exact none_some | exact .inr in4 | fail)))
        · conv => whnf
          repeat' ((first | refine RegP.enter ?_ | refine DrawP.range (by kernel_rfl) ?_ | refine BuildP.frz ⟨rfl, ?_⟩ | refine BoxP.row ?_ | refine And.intro (Nat.succ_pos _) ?_ | refine call_same (g3) rfl ?_ | refine call_same (hsp) rfl ?_ | rw [hk4] | fail); conv => whnf)
          refine Ent.of_check ?_ rfl
          conv => whnf
          (iterate 3 ((all_goals try (conv => whnf)); (repeat' first | exact ⟨⟩ | refine And.intro ?_ ?_ | rfl | exact fun _ h => h | exact .inl rfl | exact none_some | exact .inr in4 | fail)))
      | some qs =>
        rw [hsx] at hsp hr
        cases h1 : (((qs.length : Nat) : Int) != 1)
        rotate_left
        · replace hr : .no = r := by
            rw [← hr]
            match qs, h1 with
            | [], _ => rfl
            | [_], h1 => exact absurd h1 (by simp)
            | _ :: _ :: _, _ => rfl
          subst hr
          cases b
          · conv => whnf
            repeat' ((first | refine RegP.enter ?_ | refine DrawP.range (by kernel_rfl) ?_ | refine BuildP.frz ⟨rfl, ?_⟩ | refine BoxP.row ?_ | refine And.intro (Nat.succ_pos _) ?_ | refine call_same (g3) rfl ?_ | refine call_same (hsp) rfl ?_ | rw [hk4] | rw [h1] | fail); conv => whnf)
            refine Ent.of_check ?_ rfl
            conv => whnf
            (iterate 3 ((all_goals try (conv => whnf)); (repeat' first | exact ⟨⟩ | refine And.intro ?_ ?_ | rfl | exact fun _ h => h | exact .inl rfl | exact none_some | exact .inr in4 | fail)))
          · conv => whnf
            repeat' ((first | refine RegP.enter ?_ | refine DrawP.range (by kernel_rfl) ?_ | refine BuildP.frz ⟨rfl, ?_⟩ | refine BoxP.row ?_ | refine And.intro (Nat.succ_pos _) ?_ | refine call_same (g3) rfl ?_ | refine call_same (hsp) rfl ?_ | rw [hk4] | rw [h1] | fail); conv => whnf)
            refine Ent.of_check ?_ rfl
            conv => whnf
            (iterate 3 ((all_goals try (conv => whnf)); (repeat' first | exact ⟨⟩ | refine And.intro ?_ ?_ | rfl | exact fun _ h => h | exact .inl rfl | exact none_some | exact .inr in4 | fail)))
        obtain ⟨q, rfl⟩ : ∃ q, qs = [q] := by
          match qs, h1 with
          | [], h1 => exact absurd h1 (by simp)
          | [q], _ => exact ⟨q, rfl⟩
          | _ :: _ :: l, h1 => exact absurd h1 (by simp; omega)
        dsimp only at hr
        cases hq : decide ([q].getD 0 default = (⟨#[82, 79, 79, 84]⟩ : ByteArray))
        rotate_left
        · have hq' : decide (q = sRoot) = true := hq
          rw [hq'] at hr
          replace hr : .no = r := hr
          subst hr
          cases b
          · conv => whnf
            repeat' ((first | refine RegP.enter ?_ | refine DrawP.range (by kernel_rfl) ?_ | refine BuildP.frz ⟨rfl, ?_⟩ | refine BoxP.row ?_ | refine And.intro (Nat.succ_pos _) ?_ | refine call_same (g3) rfl ?_ | refine call_same (hsp) rfl ?_ | rw [hk4] | rw [h1] | rw [hq] | fail); conv => whnf)
            refine Ent.of_check ?_ rfl
            conv => whnf
            (iterate 3 ((all_goals try (conv => whnf)); (repeat' first | exact ⟨⟩ | refine And.intro ?_ ?_ | rfl | exact fun _ h => h | exact .inl rfl | exact none_some | exact .inr in4 | fail)))
          · conv => whnf
            repeat' ((first | refine RegP.enter ?_ | refine DrawP.range (by kernel_rfl) ?_ | refine BuildP.frz ⟨rfl, ?_⟩ | refine BoxP.row ?_ | refine And.intro (Nat.succ_pos _) ?_ | refine call_same (g3) rfl ?_ | refine call_same (hsp) rfl ?_ | rw [hk4] | rw [h1] | rw [hq] | fail); conv => whnf)
            refine Ent.of_check ?_ rfl
            conv => whnf
            (iterate 3 ((all_goals try (conv => whnf)); (repeat' first | exact ⟨⟩ | refine And.intro ?_ ?_ | rfl | exact fun _ h => h | exact .inl rfl | exact none_some | exact .inr in4 | fail)))
        have hq' : decide (q = sRoot) = false := hq
        rw [hq'] at hr
        dsimp only at hr
        have hpb := hp (names ++ [q]) body hgb
        cases b
        · conv => whnf
          repeat' ((first | refine RegP.enter ?_ | refine DrawP.range (by kernel_rfl) ?_ | refine BuildP.frz ⟨rfl, ?_⟩ | refine BoxP.row ?_ | refine And.intro (Nat.succ_pos _) ?_ | refine call_same (g3) rfl ?_ | refine call_same (hsp) rfl ?_ | rw [hk4] | rw [h1] | fail); conv => whnf)
          rw [hq]
          conv => whnf
          refine RegP.enter ?_
          conv => whnf
          refine And.intro (Nat.zero_lt_one) ?_
          conv => whnf
          refine And.intro (Nat.zero_lt_one) ?_
          conv => whnf
          refine RegP.go fun hf => ?_
          conv => whnf
          refine BuildP.frz ⟨rfl, ?_⟩
          conv => whnf
          have hn : names = names := rfl
          have hren : renLL (backM [] 1 54) (strs names) = strs names := renLL_map idfL_strs _ _
          refine AppP.grow ⟨⟨by rw [hren]; simp, by simp only [R]; omega⟩, ?_⟩
          conv => whnf
          refine RegP.view ⟨[(6, .lit .nilIface), (10, .ptr (1,10,0) 0 0), (12, .ptr (1,12,0) 0 0), (13, .lz (.gs (names ++ [q])))], [((1,10,0), .cells 5 80 [body.cells]), ((1,12,0), .cells 5 80 [[.str oMap, .str q, OV, .lit .nilIface, .lit .nilIface]])], Sub.of_check [((1,10,0), .old true (1,10,0)), ((1,12,0), .old true (1,12,0))] ?_ (by repeat' first | exact Gen0.emp | exact Gen0.ofH rfl | refine Gen0.put ?_ (by decide) | refine Gen0.put0 ?_ ⟨_, rfl⟩), ?_⟩
          · conv => whnf
            (iterate 3 ((all_goals try (conv => whnf)); (repeat' first | exact ⟨⟩ | refine And.intro ?_ ?_ | rfl | exact fun _ h => h | exact .inl rfl | exact none_some | exact .inr in4 | fail)))
            all_goals first | exact an1 _ _ | exact an2 _ _ _ | exact an3 _ _ _ | exact bn1 hn _ | exact Nat.le_refl _ | exact bn3 hn _ | exact leK_refl _ (idf_av _) | trace_state
          refine fun hf => ?_
          conv => whnf
          cases hb2 : p (names ++ [q]) body with
          | unk => rw [hb2] at hr; exact absurd hr.symm hu
          | no =>
            have hbl := hpb.1 hb2
            rw [hb2] at hr
            dsimp only at hr
            subst hr
            repeat' ((first | refine RegP.enter ?_ | refine DrawP.range (by kernel_rfl) ?_ | refine BuildP.frz ⟨rfl, ?_⟩ | refine BoxP.row ?_ | refine And.intro (Nat.succ_pos _) ?_ | refine call_same (hbl) rfl ?_ | fail); conv => whnf)
            refine Ent.of_check ?_ rfl
            conv => whnf
            (iterate 3 ((all_goals try (conv => whnf)); (repeat' first | exact ⟨⟩ | refine And.intro ?_ ?_ | rfl | exact fun _ h => h | exact .inl rfl | exact none_some | exact .inr in4 | fail)))
          | yes bN =>
            have hbl := hpb.2 bN hb2
            rw [hb2] at hr
            dsimp only at hr
            subst hr
            repeat' ((first | refine RegP.enter ?_ | refine DrawP.range (by kernel_rfl) ?_ | refine BuildP.frz ⟨rfl, ?_⟩ | refine BoxP.row ?_ | refine And.intro (Nat.succ_pos _) ?_ | refine call_same (hbl) rfl ?_ | fail); conv => whnf)
            first | refine Ent.of_check ?_ rfl | refine Ent.of_check ?_ (idf_av _)
            conv => whnf
            (iterate 3 ((all_goals try (conv => whnf)); (repeat' first | exact ⟨⟩ | refine And.intro ?_ ?_ | rfl | exact fun _ h => h | exact .inl rfl | exact none_some | exact .inr in4 | fail)))
            all_goals first | exact leK_refl _ (idf_av _) | trace_state
        · conv => whnf
          repeat' ((first | refine RegP.enter ?_ | refine DrawP.range (by kernel_rfl) ?_ | refine BuildP.frz ⟨rfl, ?_⟩ | refine BoxP.row ?_ | refine And.intro (Nat.succ_pos _) ?_ | refine call_same (g3) rfl ?_ | refine call_same (hsp) rfl ?_ | rw [hk4] | rw [h1] | fail); conv => whnf)
          rw [hq]
          conv => whnf
          refine RegP.enter ?_
          conv => whnf
          refine And.intro (Nat.zero_lt_one) ?_
          conv => whnf
          refine And.intro (Nat.zero_lt_one) ?_
          conv => whnf
          refine RegP.go fun hf => ?_
          conv => whnf
          refine BuildP.frz ⟨rfl, ?_⟩
          conv => whnf
          refine And.intro ((by decide)) ?_
          conv => whnf
          have hn := hb rfl
          refine RegP.view ⟨[(6, .lit .nilIface), (10, .ptr (1,10,0) 0 0), (12, .ptr (1,12,0) 0 0), (13, .lz (.gs (names ++ [q])))], [((1,10,0), .cells 5 80 [body.cells]), ((1,12,0), .cells 5 80 [[.str oMap, .str q, OV, .lit .nilIface, .lit .nilIface]])], Sub.of_check [((1,10,0), .old true (1,10,0)), ((1,12,0), .old true (1,12,0))] ?_ (by repeat' first | exact Gen0.emp | exact Gen0.ofH rfl | refine Gen0.put ?_ (by decide) | refine Gen0.put0 ?_ ⟨_, rfl⟩), ?_⟩
          · conv => whnf
            (iterate 3 ((all_goals try (conv => whnf)); (repeat' first | exact ⟨⟩ | refine And.intro ?_ ?_ | rfl | exact fun _ h => h | exact .inl rfl | exact none_some | exact .inr in4 | fail)))
            all_goals first | exact an1 _ _ | exact an2 _ _ _ | exact an3 _ _ _ | exact bn1 hn _ | exact Nat.le_refl _ | exact bn3 hn _ | exact leK_refl _ (idf_av _) | trace_state
          refine fun hf => ?_
          conv => whnf
          cases hb2 : p (names ++ [q]) body with
          | unk => rw [hb2] at hr; exact absurd hr.symm hu
          | no =>
            have hbl := hpb.1 hb2
            rw [hb2] at hr
            dsimp only at hr
            subst hr
            repeat' ((first | refine RegP.enter ?_ | refine DrawP.range (by kernel_rfl) ?_ | refine BuildP.frz ⟨rfl, ?_⟩ | refine BoxP.row ?_ | refine And.intro (Nat.succ_pos _) ?_ | refine call_same (hbl) rfl ?_ | fail); conv => whnf)
            refine Ent.of_check ?_ rfl
            conv => whnf
            (iterate 3 ((all_goals try (conv => whnf)); (repeat' first | exact ⟨⟩ | refine And.intro ?_ ?_ | rfl | exact fun _ h => h | exact .inl rfl | exact none_some | exact .inr in4 | fail)))
          | yes bN =>
            have hbl := hpb.2 bN hb2
            rw [hb2] at hr
            dsimp only at hr
            subst hr
            repeat' ((first | refine RegP.enter ?_ | refine DrawP.range (by kernel_rfl) ?_ | refine BuildP.frz ⟨rfl, ?_⟩ | refine BoxP.row ?_ | refine And.intro (Nat.succ_pos _) ?_ | refine call_same (hbl) rfl ?_ | fail); conv => whnf)
            first | refine Ent.of_check ?_ rfl | refine Ent.of_check ?_ (idf_av _)
            conv => whnf
            (iterate 3 ((all_goals try (conv => whnf)); (repeat' first | exact ⟨⟩ | refine And.intro ?_ ?_ | rfl | exact fun _ h => h | exact .inl rfl | exact none_some | exact .inr in4 | fail)))
            all_goals first | exact leK_refl _ (idf_av _) | trace_state
end Go.Eng

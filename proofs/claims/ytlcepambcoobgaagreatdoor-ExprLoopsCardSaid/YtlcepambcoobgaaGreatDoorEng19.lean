/- Eng19: an engine for the program's code, and walks of its functions (Wl Wm Ev Wn Wo Wp). -/
import Derived.Test.YtlcepambcoobgaaGreatDoorEng18
import Derived.Test.YtlcepambcoobgaaGreatDoorEng13
namespace Go.Eng
open Go.Proofs
set_option maxRecDepth 10000
/-- slices.IndexFunc over fields, of a function that only computes. -/
theorem indexFuncF_ok (l : List (ByteArray × GV)) (f : FuncId) (a b : List AV) (ha : idfL a = true) (hb : idfL b = true) (p : ByteArray × GV → Bool) (hp : ∀ s, s ∈ l → PSpec cxA f (a ++ [.agg (fcells s)] ++ b) (.ret (.bool (p s)))) :
    PSpec cxA 297 [.lz (.gd l), .clo (.func f) a b] (.ret (.int (idxI p l))) := by
  generalize hr : idxI p l = r
  refine PSpec.of_WC cxA_ok Tryz.func297 rfl Tryz.call297 (Nat.le_of_ble_eq_true rfl) (g := 1) ?_
  conv => whnf
  repeat' ((first | refine RegP.enter ?_ | refine DrawP.range (by kernel_rfl) ?_ | refine BuildP.frz ⟨rfl, ?_⟩ | refine BoxP.row ?_ | refine And.intro (Nat.succ_pos _) ?_ | fail); conv => whnf)
  refine ⟨2, {i : Nat // i ≤ l.length ∧ ∀ j, j < i → p (l.getD j default) = false}, fun i => ([(0, .lz (.gd l)), (1, .clo (.func f) a b), (7, .int l.length), (8, .int i.1)], []), fun i => l.length - i.1, ⟨⟨0, Nat.zero_le _, fun _ h => absurd h (Nat.not_lt_zero _)⟩, Sub.of_check [] ?_ (by repeat' first | exact Gen0.emp | exact Gen0.ofH rfl | refine Gen0.put ?_ (by decide) | refine Gen0.put0 ?_ ⟨_, rfl⟩)⟩, fun ⟨i, hi, hia⟩ => ?_⟩
  · conv => whnf
    (iterate 3 ((all_goals try (conv => whnf)); (repeat' first | exact ⟨⟩ | refine And.intro ?_ ?_ | rfl | exact fun _ h => h | exact .inl rfl | exact none_some | exact .inr in4 | fail)))
    all_goals first | exact leL_refl _ ha | exact leL_refl _ hb
  conv => whnf
  refine RegP.go fun hf => ?_
  conv => whnf
  refine br (fun hl => ?_) (fun hl => ?_)
  rotate_left
  · have hge : i = l.length := by
      have : ¬ i < l.length := by simpa using hl
      omega
    try rw [hl]
    conv => whnf
    repeat' ((first | refine RegP.enter ?_ | refine DrawP.range (by kernel_rfl) ?_ | refine BuildP.frz ⟨rfl, ?_⟩ | refine BoxP.row ?_ | refine And.intro (Nat.succ_pos _) ?_ | fail); conv => whnf)
    refine Ent.of_check ?_ rfl
    conv => whnf
    (iterate 3 ((all_goals try (conv => whnf)); (repeat' first | exact ⟨⟩ | refine And.intro ?_ ?_ | rfl | exact fun _ h => h | exact .inl rfl | exact none_some | exact .inr in4 | fail)))
    rw [← hr, idxI_none (by rw [← hge]; exact hia)]
  have hlt : i < l.length := by simpa using hl
  have hR := le_of_mul (k := 95) (hf.lz 0 _ _ _ _ _ _ rfl rfl)
  have hmem : l.getD i default ∈ l := by simp [hlt]
  try rw [hl]
  conv => whnf
  repeat' ((first | refine RegP.enter ?_ | refine DrawP.range (by kernel_rfl) ?_ | refine BuildP.frz ⟨rfl, ?_⟩ | refine BoxP.row ?_ | refine And.intro (Nat.succ_pos _) ?_ | fail); conv => whnf)
  refine And.intro (hlt) ?_
  conv => whnf
  refine And.intro (hlt) ?_
  conv => whnf
  refine call_same (hp _ hmem) (by rw [idfL_app, idfL_app, ha, hb]; rfl) ?_
  conv => whnf
  refine br (fun hx => ?_) (fun hx => ?_)
  · try rw [hx]
    conv => whnf
    repeat' ((first | refine RegP.enter ?_ | refine DrawP.range (by kernel_rfl) ?_ | refine BuildP.frz ⟨rfl, ?_⟩ | refine BoxP.row ?_ | refine And.intro (Nat.succ_pos _) ?_ | fail); conv => whnf)
    refine Ent.of_check ?_ rfl
    conv => whnf
    (iterate 3 ((all_goals try (conv => whnf)); (repeat' first | exact ⟨⟩ | refine And.intro ?_ ?_ | rfl | exact fun _ h => h | exact .inl rfl | exact none_some | exact .inr in4 | fail)))
    rw [← hr, idxI_some hlt hx hia]
  · try rw [hx]
    conv => whnf
    repeat' ((first | refine RegP.enter ?_ | refine DrawP.range (by kernel_rfl) ?_ | refine BuildP.frz ⟨rfl, ?_⟩ | refine BoxP.row ?_ | refine And.intro (Nat.succ_pos _) ?_ | fail); conv => whnf)
    refine ⟨⟨i + 1, hlt, fun j hj => (Nat.lt_or_eq_of_le (Nat.le_of_lt_succ hj)).elim (hia j) (fun e => e ▸ hx)⟩, (by show l.length - (i + 1) < l.length - i; omega), Sub.of_check [] ?_ (by repeat' first | exact Gen0.emp | exact Gen0.ofH rfl | refine Gen0.put ?_ (by decide) | refine Gen0.put0 ?_ ⟨_, rfl⟩)⟩
    conv => whnf
    (iterate 3 ((all_goals try (conv => whnf)); (repeat' first | exact ⟨⟩ | refine And.intro ?_ ?_ | rfl | exact fun _ h => h | exact .inl rfl | exact none_some | exact .inr in4 | fail)))
    all_goals first | exact leL_refl _ ha | exact leL_refl _ hb | exact wrap_succ hlt hR
/-- f.Name == name. -/
theorem field1_ok (f : ByteArray × GV) (s : ByteArray) : PSpec cxA 298 ([] ++ [.agg (fcells f)] ++ [.fptr 1 1 (fun _ => [.str s]) 0 0]) (.ret (.bool (decide (f.1 = s)))) := by
  refine PSpec.of_WC cxA_ok Tryz.func298 rfl Tryz.call298 (Nat.le_of_ble_eq_true rfl) (g := 1) ?_
  conv => whnf
  repeat' ((first | refine RegP.enter ?_ | refine DrawP.range (by kernel_rfl) ?_ | refine BuildP.frz ⟨rfl, ?_⟩ | refine BoxP.row ?_ | refine And.intro (Nat.succ_pos _) ?_ | fail); conv => whnf)
  refine Ent.of_check ?_ rfl
  conv => whnf
  (iterate 3 ((all_goals try (conv => whnf)); (repeat' first | exact ⟨⟩ | refine And.intro ?_ ?_ | rfl | exact fun _ h => h | exact .inl rfl | exact none_some | exact .inr in4 | fail)))
theorem findF_idx (s : ByteArray) : ∀ (d : List (ByteArray × GV)), (findF s d = none ∧ idxI (fun f => decide (f.1 = s)) d = -1) ∨ ∃ i, i < d.length ∧ idxI (fun f => decide (f.1 = s)) d = (i : Nat) ∧ findF s d = some (d.getD i default).2
  | [] => .inl ⟨rfl, rfl⟩
  | (m, g) :: d => by
    unfold findF idxI
    rw [List.findIdx?_cons]
    cases h : decide (m = s) with
    | true => exact .inr ⟨0, by simp, by simp, rfl⟩
    | false =>
      rcases findF_idx s d with ⟨h1, h2⟩ | ⟨i, h1, h2, h3⟩
      · left
        refine ⟨h1, ?_⟩
        unfold idxI at h2
        cases hx : d.findIdx? (fun f => decide (f.1 = s)) with
        | none => simp
        | some k => rw [hx] at h2; simp at h2; try omega
      · right
        refine ⟨i + 1, by simp; omega, ?_, h3⟩
        unfold idxI at h2
        cases hx : d.findIdx? (fun f => decide (f.1 = s)) with
        | none => rw [hx] at h2; simp at h2; try omega
        | some k => rw [hx] at h2; simp at h2 ⊢; try omega
def fieldOut : Option GV → List AV
  | some g => [.agg g.cells, .bool true]
  | none => [.agg gZero.cells, .bool false]
theorem field_ok (g : GV) (s : ByteArray) : PSpec cxA 274 [.agg g.cells, .str s] (.ret (.tup (fieldOut (g.get s)))) := by
  generalize hr : fieldOut (g.get s) = r
  refine PSpec.of_WC cxA_ok Tryz.func274 rfl Tryz.call274 (Nat.le_of_ble_eq_true rfl) (g := 1) ?_
  conv => whnf
  refine RegP.enter ?_
  conv => whnf
  refine BoxP.frz ⟨rfl, ?_⟩
  conv => whnf
  refine BoxP.frz ⟨rfl, ?_⟩
  conv => whnf
  repeat' ((first | refine RegP.enter ?_ | refine DrawP.range (by kernel_rfl) ?_ | refine BuildP.frz ⟨rfl, ?_⟩ | refine BoxP.row ?_ | refine And.intro (Nat.succ_pos _) ?_ | refine call_same (indexFuncF_ok g.doc 298 [] [.fptr 1 1 (fun _ => [.str s]) 0 0] rfl rfl (fun f => decide (f.1 = s)) (fun f _ => field1_ok f s)) rfl ?_ | fail); conv => whnf)
  cases h5 : (g.kind != 5)
  rotate_left
  · have : decide (g.kind = 5) = false := by simpa using h5
    unfold GV.get at hr
    simp only [this] at hr
    subst hr
    conv => whnf
    repeat' ((first | refine RegP.enter ?_ | refine DrawP.range (by kernel_rfl) ?_ | refine BuildP.frz ⟨rfl, ?_⟩ | refine BoxP.row ?_ | refine And.intro (Nat.succ_pos _) ?_ | fail); conv => whnf)
    refine Ent.of_check ?_ rfl
    conv => whnf
    (iterate 3 ((all_goals try (conv => whnf)); (repeat' first | exact ⟨⟩ | refine And.intro ?_ ?_ | rfl | exact fun _ h => h | exact .inl rfl | exact none_some | exact .inr in4 | fail)))
  have h5' : decide (g.kind = 5) = true := by simpa using h5
  unfold GV.get at hr
  simp only [h5'] at hr
  rcases findF_idx s g.doc with ⟨h1, h2⟩ | ⟨i, h1, h2, h3⟩
  · rw [h1] at hr
    subst hr
    rw [h2]
    conv => whnf
    repeat' ((first | refine RegP.enter ?_ | refine DrawP.range (by kernel_rfl) ?_ | refine BuildP.frz ⟨rfl, ?_⟩ | refine BoxP.row ?_ | refine And.intro (Nat.succ_pos _) ?_ | fail); conv => whnf)
    refine Ent.of_check ?_ rfl
    conv => whnf
    (iterate 3 ((all_goals try (conv => whnf)); (repeat' first | exact ⟨⟩ | refine And.intro ?_ ?_ | rfl | exact fun _ h => h | exact .inl rfl | exact none_some | exact .inr in4 | fail)))
  · rw [h3] at hr
    subst hr
    rw [h2]
    conv => whnf
    repeat' ((first | refine RegP.enter ?_ | refine DrawP.range (by kernel_rfl) ?_ | refine BuildP.frz ⟨rfl, ?_⟩ | refine BoxP.row ?_ | refine And.intro (Nat.succ_pos _) ?_ | fail); conv => whnf)
    refine And.intro (h1) ?_
    conv => whnf
    refine And.intro (h1) ?_
    conv => whnf
    repeat' ((first | refine RegP.enter ?_ | refine DrawP.range (by kernel_rfl) ?_ | refine BuildP.frz ⟨rfl, ?_⟩ | refine BoxP.row ?_ | refine And.intro (Nat.succ_pos _) ?_ | fail); conv => whnf)
    refine Ent.of_check ?_ rfl
    conv => whnf
    (iterate 3 ((all_goals try (conv => whnf)); (repeat' first | exact ⟨⟩ | refine And.intro ?_ ?_ | rfl | exact fun _ h => h | exact .inl rfl | exact none_some | exact .inr in4 | fail)))
end Go.Eng
namespace Go.Eng
open Go.Proofs
set_option maxRecDepth 10000
theorem pickF_eq (p : ByteArray) (rest : List ByteArray) : ∀ d, pickF p rest d = (match findF p d with | some x => pickM rest x | none => gZero)
  | [] => by simp [pickF, findF]
  | (n, g) :: d => by
    unfold pickF findF
    cases decide (n = p) with
    | true => rfl
    | false => exact pickF_eq p rest d
theorem pickL_drop {ps : List ByteArray} {l : List GV} {i : Nat} (h : i < l.length) : pickL ps (l.drop i) = (match (decide ((l.getD i default).kind = 5) || decide ((l.getD i default).kind = 6)) && !(decide ((pickM ps (l.getD i default)).kind = 0)) with | true => pickM ps (l.getD i default) :: pickL ps (l.drop (i + 1)) | false => pickL ps (l.drop (i + 1))) := by
  have e : l.getD i default = l[i] := by simp [h]
  rw [List.drop_eq_getElem_cons h, e, pickL]; rfl
theorem findF_size {p : ByteArray} {x : GV} : ∀ {d : List (ByteArray × GV)}, findF p d = some x → SizeOf.sizeOf x < SizeOf.sizeOf d
  | [], h => by simp [findF] at h
  | (n, g) :: d, h => by
    unfold findF at h
    cases hd : decide (n = p) with
    | true =>
      rw [hd] at h
      have h : some g = some x := h
      cases h
      simp
      omega
    | false =>
      rw [hd] at h
      have h : findF p d = some x := h
      have := findF_size h
      simp
      omega
theorem GV.get_size {g x : GV} {p : ByteArray} (h : g.get p = some x) : SizeOf.sizeOf x < SizeOf.sizeOf g := by
  obtain ⟨kind, int, text, list, doc⟩ := g
  unfold GV.get at h
  by_cases hk : kind = 5
  · have h : findF p doc = some x := by simpa [GV.kind, GV.doc, hk] using h
    have := findF_size h
    simp
    omega
  · simp [GV.kind, hk] at h
set_option maxHeartbeats 2000000 in
theorem pick_spec : ∀ (n : Nat) (g : GV), SizeOf.sizeOf g < n → ∀ ps : List ByteArray, PSpec cxA 379 [.agg g.cells, .lz (.gs ps)] (.ret (.agg (pickM ps g).cells)) := by
  intro n
  induction n with
  | zero => intro g h; exact absurd h (Nat.not_lt_zero _)
  | succ n ih =>
  intro g hg ps
  generalize hr : pickM ps g = r
  refine PSpec.of_WC cxA_ok Tryz.func379 rfl Tryz.call379 (Nat.le_of_ble_eq_true rfl) (g := 1) ?_
  conv => whnf
  refine RegP.enter ?_
  conv => whnf
  refine BoxP.frz ⟨rfl, ?_⟩
  conv => whnf
  repeat' ((first | refine RegP.enter ?_ | refine DrawP.range (by kernel_rfl) ?_ | refine BuildP.frz ⟨rfl, ?_⟩ | refine BoxP.row ?_ | refine And.intro (Nat.succ_pos _) ?_ | fail); conv => whnf)
  obtain ⟨kind, int, text, list, doc⟩ := g
  unfold pickM at hr
  cases h10 : decide (((ps.length : Nat) : Int) > 10)
  rotate_left
  · have : decide (10 < ps.length) = true := by simp at h10 ⊢; omega
    simp only [this] at hr
    subst hr
    conv => whnf
    repeat' ((first | refine RegP.enter ?_ | refine DrawP.range (by kernel_rfl) ?_ | refine BuildP.frz ⟨rfl, ?_⟩ | refine BoxP.row ?_ | refine And.intro (Nat.succ_pos _) ?_ | fail); conv => whnf)
    refine Ent.of_check ?_ rfl
    conv => whnf
    (iterate 3 ((all_goals try (conv => whnf)); (repeat' first | exact ⟨⟩ | refine And.intro ?_ ?_ | rfl | exact fun _ h => h | exact .inl rfl | exact none_some | exact .inr in4 | fail)))
  have h10' : decide (10 < ps.length) = false := by simp at h10 ⊢; omega
  simp only [h10'] at hr
  conv => whnf
  repeat' ((first | refine RegP.enter ?_ | refine DrawP.range (by kernel_rfl) ?_ | refine BuildP.frz ⟨rfl, ?_⟩ | refine BoxP.row ?_ | refine And.intro (Nat.succ_pos _) ?_ | fail); conv => whnf)
  cases ps with
  | nil =>
    replace hr : GV.mk kind int text list doc = r := hr
    conv => whnf
    repeat' ((first | refine RegP.enter ?_ | refine DrawP.range (by kernel_rfl) ?_ | refine BuildP.frz ⟨rfl, ?_⟩ | refine BoxP.row ?_ | refine And.intro (Nat.succ_pos _) ?_ | fail); conv => whnf)
    subst hr
    refine call_same (clone_ok _) rfl ?_
    conv => whnf
    repeat' ((first | refine RegP.enter ?_ | refine DrawP.range (by kernel_rfl) ?_ | refine BuildP.frz ⟨rfl, ?_⟩ | refine BoxP.row ?_ | refine And.intro (Nat.succ_pos _) ?_ | fail); conv => whnf)
    refine Ent.of_check ?_ rfl
    conv => whnf
    (iterate 3 ((all_goals try (conv => whnf)); (repeat' first | exact ⟨⟩ | refine And.intro ?_ ?_ | rfl | exact fun _ h => h | exact .inl rfl | exact none_some | exact .inr in4 | fail)))
  | cons p rest =>
  replace hr : (match decide (kind = 6) with | true => gList (pickL (p :: rest) list) | false => match decide (kind = 5) with | true => pickF p rest doc | false => gZero) = r := hr
  have h0 : ((((p :: rest).length : Nat) : Int) == 0) = false := by simp; omega
  rw [h0]
  conv => whnf
  repeat' ((first | refine RegP.enter ?_ | refine DrawP.range (by kernel_rfl) ?_ | refine BuildP.frz ⟨rfl, ?_⟩ | refine BoxP.row ?_ | refine And.intro (Nat.succ_pos _) ?_ | fail); conv => whnf)
  cases h6 : ((GV.mk kind int text list doc).kind != 6)
  rotate_left
  · have h6' : decide (kind = 6) = false := by simpa [GV.kind] using h6
    simp only [h6'] at hr
    have hr2 : (match (GV.mk kind int text list doc).get p with | some x => pickM rest x | none => gZero) = r := by
      rw [← hr]
      unfold GV.get
      by_cases hk : kind = 5
      · simp [GV.kind, GV.doc, hk, pickF_eq]
      · simp [GV.kind, GV.doc, hk]
    conv => whnf
    repeat' ((first | refine RegP.enter ?_ | refine DrawP.range (by kernel_rfl) ?_ | refine BuildP.frz ⟨rfl, ?_⟩ | refine BoxP.row ?_ | refine And.intro (Nat.succ_pos _) ?_ | refine call_same (field_ok (GV.mk kind int text list doc) p) rfl ?_ | fail); conv => whnf)
    cases hgt : (GV.mk kind int text list doc).get p with
    | none =>
      rw [hgt] at hr2
      subst hr2
      conv => whnf
      repeat' ((first | refine RegP.enter ?_ | refine DrawP.range (by kernel_rfl) ?_ | refine BuildP.frz ⟨rfl, ?_⟩ | refine BoxP.row ?_ | refine And.intro (Nat.succ_pos _) ?_ | fail); conv => whnf)
      refine Ent.of_check ?_ rfl
      conv => whnf
      (iterate 3 ((all_goals try (conv => whnf)); (repeat' first | exact ⟨⟩ | refine And.intro ?_ ?_ | rfl | exact fun _ h => h | exact .inl rfl | exact none_some | exact .inr in4 | fail)))
    | some x =>
      rw [hgt] at hr2
      have hx : SizeOf.sizeOf x < n := by
        have h1 := GV.get_size hgt
        omega
      subst hr2
      conv => whnf
      repeat' ((first | refine RegP.enter ?_ | refine DrawP.range (by kernel_rfl) ?_ | refine BuildP.frz ⟨rfl, ?_⟩ | refine BoxP.row ?_ | refine And.intro (Nat.succ_pos _) ?_ | fail); conv => whnf)
      refine call_le (ih x hx rest) ?_ (by rfl) (by rfl) ?_
      · (iterate 3 ((all_goals try (conv => whnf)); (repeat' first | exact ⟨⟩ | refine And.intro ?_ ?_ | rfl | exact fun _ h => h | exact .inl rfl | exact none_some | exact .inr in4 | fail)))
        all_goals exact .inr ⟨rfl, rfl, fun i _ => by show [AV.lit (Value.string ((p :: rest).getD (0 + 1 + i) default))] = _; rw [Nat.zero_add, Nat.add_comm 1 i]; rfl⟩
      conv => whnf
      repeat' ((first | refine RegP.enter ?_ | refine DrawP.range (by kernel_rfl) ?_ | refine BuildP.frz ⟨rfl, ?_⟩ | refine BoxP.row ?_ | refine And.intro (Nat.succ_pos _) ?_ | fail); conv => whnf)
      refine Ent.of_check ?_ rfl
      conv => whnf
      (iterate 3 ((all_goals try (conv => whnf)); (repeat' first | exact ⟨⟩ | refine And.intro ?_ ?_ | rfl | exact fun _ h => h | exact .inl rfl | exact none_some | exact .inr in4 | fail)))
  have h6' : decide (kind = 6) = true := by simpa [GV.kind] using h6
  simp only [h6'] at hr
  conv => whnf
  repeat' ((first | refine RegP.enter ?_ | refine DrawP.range (by kernel_rfl) ?_ | refine BuildP.frz ⟨rfl, ?_⟩ | refine BoxP.row ?_ | refine And.intro (Nat.succ_pos _) ?_ | fail); conv => whnf)
  refine ⟨2, {q : List GV × Nat // q.2 ≤ list.length ∧ q.1.length ≤ q.2 ∧ gList (q.1 ++ pickL (p :: rest) (list.drop q.2)) = r}, fun i => ([(1, .lz (.gs (p :: rest))), (4, .ptr (1,4,0) 0 0), (7, .ptr (1,7,0) 0 0), (43, .lz (.gl list)), (44, .int list.length), (45, .int i.1.2)], [((1,4,0), .cells 5 80 [[.int 0, .int 0, .str ⟨#[]⟩, .nil, .nil]]), ((1,7,0), .cells 5 80 [[.int 6, .int 0, .str ⟨#[]⟩, .row (2,0,0) 0 i.1.1.length none, .nil]]), ((2,0,0), .cells 5 80 (i.1.1.map GV.cells))]), fun i => list.length - i.1.2, ⟨⟨([], 0), Nat.zero_le _, Nat.le_refl _, hr⟩, Sub.of_check [((1,4,0), .old true (1,4,0)), ((1,7,0), .old true (1,7,0)), ((2,0,0), .new 5 80)] ?_ (by repeat' first | exact Gen0.emp | exact Gen0.ofH rfl | refine Gen0.put ?_ (by decide) | refine Gen0.put0 ?_ ⟨_, rfl⟩)⟩, fun ⟨⟨acc, i⟩, hi, hac, hia⟩ => ?_⟩
  · conv => whnf
    (iterate 3 ((all_goals try (conv => whnf)); (repeat' first | exact ⟨⟩ | refine And.intro ?_ ?_ | rfl | exact fun _ h => h | exact .inl rfl | exact none_some | exact .inr in4 | fail)))
  conv => whnf
  refine RegP.go fun hf => ?_
  conv => whnf
  refine br (fun hl => ?_) (fun hl => ?_)
  · have hlt : i < list.length := by simpa using hl
    have hRl := hf.lz 43 _ _ _ _ _ _ rfl rfl
    try rw [hl]
    conv => whnf
    refine RegP.enter ?_
    conv => whnf
    refine And.intro (hlt) ?_
    conv => whnf
    refine And.intro (hlt) ?_
    conv => whnf
    repeat' ((first | refine RegP.enter ?_ | refine DrawP.range (by kernel_rfl) ?_ | refine BuildP.frz ⟨rfl, ?_⟩ | refine BoxP.row ?_ | refine And.intro (Nat.succ_pos _) ?_ | fail); conv => whnf)
    have hsm := GV.sizeOf_list (k := kind) (n := int) (t := text) (d := doc) (show list.getD i default ∈ list by simp [hlt])
    rw [pickL_drop hlt] at hia
    have hac' : acc.length ≤ i := hac
    have hpick := ih (list.getD i default) (by omega) (p :: rest)
    generalize hx : list.getD i default = x at hia hpick
    cases h5 : x.kind == 5
    · have h5' : decide (x.kind = 5) = false := by simpa using h5
      conv => whnf
      repeat' ((first | refine RegP.enter ?_ | refine DrawP.range (by kernel_rfl) ?_ | refine BuildP.frz ⟨rfl, ?_⟩ | refine BoxP.row ?_ | refine And.intro (Nat.succ_pos _) ?_ | fail); conv => whnf)
      cases h6 : x.kind == 6
      · have h6' : decide (x.kind = 6) = false := by simpa using h6
        simp only [h5', h6', Bool.or_self, Bool.false_and] at hia
        conv => whnf
        repeat' ((first | refine RegP.enter ?_ | refine DrawP.range (by kernel_rfl) ?_ | refine BuildP.frz ⟨rfl, ?_⟩ | refine BoxP.row ?_ | refine And.intro (Nat.succ_pos _) ?_ | fail); conv => whnf)
        refine ⟨⟨(acc, i + 1), hlt, Nat.le_succ_of_le hac, hia⟩, (by show list.length - (i + 1) < list.length - i; omega), Sub.of_check [((1,4,0), .old true (1,4,0)), ((1,7,0), .old true (1,7,0)), ((2,0,0), .old false (2,0,0))] ?_ (by repeat' first | exact Gen0.emp | exact Gen0.ofH rfl | refine Gen0.put ?_ (by decide) | refine Gen0.put0 ?_ ⟨_, rfl⟩)⟩
        conv => whnf
        (iterate 3 ((all_goals try (conv => whnf)); (repeat' first | exact ⟨⟩ | refine And.intro ?_ ?_ | rfl | exact fun _ h => h | exact .inl rfl | exact none_some | exact .inr in4 | fail)))
        all_goals first | exact wrap_succ hlt (le_of_mul (k := 79) hRl) | exact idfL_map idfL_cells _ | exact snoc_map GV.cells _ _
      · have h6' : decide (x.kind = 6) = true := by simpa using h6
        simp only [h5', h6', Bool.or_true, Bool.true_and] at hia
        conv => whnf
        repeat' ((first | refine RegP.enter ?_ | refine DrawP.range (by kernel_rfl) ?_ | refine BuildP.frz ⟨rfl, ?_⟩ | refine BoxP.row ?_ | refine And.intro (Nat.succ_pos _) ?_ | fail); conv => whnf)
        refine call_same (hpick) rfl ?_
        conv => whnf
        repeat' ((first | refine RegP.enter ?_ | refine DrawP.range (by kernel_rfl) ?_ | refine BuildP.frz ⟨rfl, ?_⟩ | refine BoxP.row ?_ | refine And.intro (Nat.succ_pos _) ?_ | fail); conv => whnf)
        cases hk : ((pickM (p :: rest) x).kind != 0)
        · have hk' : decide ((pickM (p :: rest) x).kind = 0) = true := by simpa using hk
          simp only [hk', Bool.not_true] at hia
          conv => whnf
          repeat' ((first | refine RegP.enter ?_ | refine DrawP.range (by kernel_rfl) ?_ | refine BuildP.frz ⟨rfl, ?_⟩ | refine BoxP.row ?_ | refine And.intro (Nat.succ_pos _) ?_ | fail); conv => whnf)
          refine ⟨⟨(acc, i + 1), hlt, Nat.le_succ_of_le hac, hia⟩, (by show list.length - (i + 1) < list.length - i; omega), Sub.of_check [((1,4,0), .old true (1,4,0)), ((1,7,0), .old true (1,7,0)), ((2,0,0), .old false (2,0,0))] ?_ (by repeat' first | exact Gen0.emp | exact Gen0.ofH rfl | refine Gen0.put ?_ (by decide) | refine Gen0.put0 ?_ ⟨_, rfl⟩)⟩
          conv => whnf
          (iterate 3 ((all_goals try (conv => whnf)); (repeat' first | exact ⟨⟩ | refine And.intro ?_ ?_ | rfl | exact fun _ h => h | exact .inl rfl | exact none_some | exact .inr in4 | fail)))
          all_goals first | exact wrap_succ hlt (le_of_mul (k := 79) hRl) | exact idfL_map idfL_cells _ | exact snoc_map GV.cells _ _
        · have hk' : decide ((pickM (p :: rest) x).kind = 0) = false := by simpa using hk
          simp only [hk', Bool.not_false] at hia
          conv => whnf
          refine RegP.enter ?_
          conv => whnf
          refine BuildP.row ?_
          conv => whnf
          refine AppP.grow ⟨⟨by simp, Nat.le_trans (Nat.mul_le_mul_right _ (show acc.length + 1 ≤ list.length by omega)) hRl⟩, ?_⟩
          conv => whnf
          repeat' ((first | refine RegP.enter ?_ | refine DrawP.range (by kernel_rfl) ?_ | refine BuildP.frz ⟨rfl, ?_⟩ | refine BoxP.row ?_ | refine And.intro (Nat.succ_pos _) ?_ | fail); conv => whnf)
          refine ⟨⟨(acc ++ [pickM (p :: rest) x], i + 1), hlt, by simp; omega, by rw [List.append_assoc]; exact hia⟩, (by show list.length - (i + 1) < list.length - i; omega), Sub.of_check [((1,4,0), .old true (1,4,0)), ((1,7,0), .old true (1,7,0)), ((2,0,0), .old false (2,67,0))] ?_ (by repeat' first | exact Gen0.emp | exact Gen0.ofH rfl | refine Gen0.put ?_ (by decide) | refine Gen0.put0 ?_ ⟨_, rfl⟩)⟩
          conv => whnf
          (iterate 3 ((all_goals try (conv => whnf)); (repeat' first | exact ⟨⟩ | refine And.intro ?_ ?_ | rfl | exact fun _ h => h | exact .inl rfl | exact none_some | exact .inr in4 | fail)))
          all_goals first | exact wrap_succ hlt (le_of_mul (k := 79) hRl) | exact idfL_map idfL_cells _ | exact snoc_map GV.cells _ _ | (simp; done)
    · have h5' : decide (x.kind = 5) = true := by simpa using h5
      simp only [h5', Bool.true_or, Bool.true_and] at hia
      conv => whnf
      repeat' ((first | refine RegP.enter ?_ | refine DrawP.range (by kernel_rfl) ?_ | refine BuildP.frz ⟨rfl, ?_⟩ | refine BoxP.row ?_ | refine And.intro (Nat.succ_pos _) ?_ | fail); conv => whnf)
      refine call_same (hpick) rfl ?_
      conv => whnf
      repeat' ((first | refine RegP.enter ?_ | refine DrawP.range (by kernel_rfl) ?_ | refine BuildP.frz ⟨rfl, ?_⟩ | refine BoxP.row ?_ | refine And.intro (Nat.succ_pos _) ?_ | fail); conv => whnf)
      cases hk : ((pickM (p :: rest) x).kind != 0)
      · have hk' : decide ((pickM (p :: rest) x).kind = 0) = true := by simpa using hk
        simp only [hk', Bool.not_true] at hia
        conv => whnf
        repeat' ((first | refine RegP.enter ?_ | refine DrawP.range (by kernel_rfl) ?_ | refine BuildP.frz ⟨rfl, ?_⟩ | refine BoxP.row ?_ | refine And.intro (Nat.succ_pos _) ?_ | fail); conv => whnf)
        refine ⟨⟨(acc, i + 1), hlt, Nat.le_succ_of_le hac, hia⟩, (by show list.length - (i + 1) < list.length - i; omega), Sub.of_check [((1,4,0), .old true (1,4,0)), ((1,7,0), .old true (1,7,0)), ((2,0,0), .old false (2,0,0))] ?_ (by repeat' first | exact Gen0.emp | exact Gen0.ofH rfl | refine Gen0.put ?_ (by decide) | refine Gen0.put0 ?_ ⟨_, rfl⟩)⟩
        conv => whnf
        (iterate 3 ((all_goals try (conv => whnf)); (repeat' first | exact ⟨⟩ | refine And.intro ?_ ?_ | rfl | exact fun _ h => h | exact .inl rfl | exact none_some | exact .inr in4 | fail)))
        all_goals first | exact wrap_succ hlt (le_of_mul (k := 79) hRl) | exact idfL_map idfL_cells _ | exact snoc_map GV.cells _ _
      · have hk' : decide ((pickM (p :: rest) x).kind = 0) = false := by simpa using hk
        simp only [hk', Bool.not_false] at hia
        conv => whnf
        refine RegP.enter ?_
        conv => whnf
        refine BuildP.row ?_
        conv => whnf
        refine AppP.grow ⟨⟨by simp, Nat.le_trans (Nat.mul_le_mul_right _ (show acc.length + 1 ≤ list.length by omega)) hRl⟩, ?_⟩
        conv => whnf
        repeat' ((first | refine RegP.enter ?_ | refine DrawP.range (by kernel_rfl) ?_ | refine BuildP.frz ⟨rfl, ?_⟩ | refine BoxP.row ?_ | refine And.intro (Nat.succ_pos _) ?_ | fail); conv => whnf)
        refine ⟨⟨(acc ++ [pickM (p :: rest) x], i + 1), hlt, by simp; omega, by rw [List.append_assoc]; exact hia⟩, (by show list.length - (i + 1) < list.length - i; omega), Sub.of_check [((1,4,0), .old true (1,4,0)), ((1,7,0), .old true (1,7,0)), ((2,0,0), .old false (2,67,0))] ?_ (by repeat' first | exact Gen0.emp | exact Gen0.ofH rfl | refine Gen0.put ?_ (by decide) | refine Gen0.put0 ?_ ⟨_, rfl⟩)⟩
        conv => whnf
        (iterate 3 ((all_goals try (conv => whnf)); (repeat' first | exact ⟨⟩ | refine And.intro ?_ ?_ | rfl | exact fun _ h => h | exact .inl rfl | exact none_some | exact .inr in4 | fail)))
        all_goals first | exact wrap_succ hlt (le_of_mul (k := 79) hRl) | exact idfL_map idfL_cells _ | exact snoc_map GV.cells _ _ | (simp; done)
  have hge : i = list.length := by
    have : ¬ i < list.length := by simpa using hl
    omega
  subst hge
  try rw [hl]
  conv => whnf
  repeat' ((first | refine RegP.enter ?_ | refine DrawP.range (by kernel_rfl) ?_ | refine BuildP.frz ⟨rfl, ?_⟩ | refine BoxP.row ?_ | refine And.intro (Nat.succ_pos _) ?_ | fail); conv => whnf)
  have hia : gList acc = r := by
    rw [← hia]
    simp [pickL]
  subst hia
  refine Ent.of_check ?_ rfl
  conv => whnf
  (iterate 3 ((all_goals try (conv => whnf)); (repeat' first | exact ⟨⟩ | refine And.intro ?_ ?_ | rfl | exact fun _ h => h | exact .inl rfl | exact none_some | exact .inr in4 | fail)))
  all_goals first | (simp; done) | exact frz_all idfL_cells _
end Go.Eng
/- What work under way is, in memory; what the parts of work come to. -/
namespace Go.Eng
open Go.Proofs
def stopAV (e : Int) : AV := .ifc 187 (.agg [.int e])
def runRow (doc : GV) (k : Int) : Row := .cells 6 88 [[.int doc.kind, .int doc.int, .str doc.text, .lz (.gl doc.list), .lz (.gd doc.doc), .int k]]
/-- Names that are bound. -/
def scAV : List (ByteArray × GV) → AV
  | [] => .lit (.pointer none)
  | (n, v) :: up => .fptr 7 1 (fun _ => [.str n, .int v.kind, .int v.int, .str v.text, .lz (.gl v.list), .lz (.gd v.doc), scAV up]) 0 0
theorem idf_sc (s : List (ByteArray × GV)) : idf (scAV s) = true := by cases s <;> rfl
def RsSpec (f : FuncId) (args : List AV) (doc : GV) (k : Int) : Rs GV → Prop
  | .unk => True
  | .ok g k' => MSpec cxA f args [((0,0,0), runRow doc k)] (fun _ : Unit => .ret (.agg g.cells)) (fun _ => [((0,0,0), runRow doc k')])
  | .fail e k' => MSpec cxA f args [((0,0,0), runRow doc k)] (fun _ : Unit => .pan (stopAV e)) (fun _ => [((0,0,0), runRow doc k')])
/-- How many steps there may be. -/
def StepOk (k : Int) : Prop := 0 ≤ k ∧ k ≤ 20000
def RsBd {α : Type} (k0 : Int) : Rs α → Prop
  | .unk => True
  | .ok _ k => k0 ≤ k ∧ StepOk k
  | .fail _ k => StepOk k
theorem RsBd.mono {α : Type} {a b : Int} (h : a ≤ b) {r : Rs α} (hr : RsBd b r) : RsBd a r := by
  cases r with
  | unk => trivial
  | ok g k => exact ⟨Int.le_trans h hr.1, hr.2⟩
  | fail e k => exact hr
/-- A list under way. -/
def pileRow (n : Nat) (q : Id) (room : Int) : Row := .cells 6 88 [[.int 6, .int 0, .str ⟨#[]⟩, .row q 0 n none, .nil, .int room]]
def PL (l : List GV) (room : Int) : List (Id × Row) := [((0,0,0), pileRow l.length (0,1,0) room), ((0,1,0), .cells 5 80 (l.map GV.cells))]
end Go.Eng
namespace Go.Eng
open Go.Proofs
set_option maxRecDepth 10000
theorem fail_ok (e : Int) : MSpec cxA 240 [.int e] [] (fun _ : Unit => .pan (stopAV e)) (fun _ => []) := by
  refine MSpec.of_WC cxA_ok Tryz.func240 rfl Tryz.call240 (Nat.le_of_ble_eq_true rfl) (g := 1) ?_
  conv => whnf
  repeat' ((first | refine RegP.enter ?_ | refine DrawP.range (by kernel_rfl) ?_ | refine BuildP.frz ⟨rfl, ?_⟩ | refine BoxP.row ?_ | refine And.intro (Nat.succ_pos _) ?_ | fail); conv => whnf)
  refine ⟨(), _, rfl, Sub.of_check [] ?_ (by repeat' first | exact Gen0.emp | exact Gen0.ofH rfl | refine Gen0.put ?_ (by decide) | refine Gen0.put0 ?_ ⟨_, rfl⟩)⟩
  conv => whnf
  (iterate 3 ((all_goals try (conv => whnf)); (repeat' first | exact ⟨⟩ | refine And.intro ?_ ?_ | rfl | exact fun _ h => h | exact .inl rfl | exact none_some | exact .inr in4 | fail)))
theorem step_no (doc : GV) (k : Int) (h : 20000 ≤ k) : MSpec cxA 187 [.ptr (0,0,0) 0 0] [((0,0,0), runRow doc k)] (fun _ : Unit => .pan (stopAV 54)) (fun _ => [((0,0,0), runRow doc k)]) := by
  refine MSpec.of_WC cxA_ok Tryz.func187 rfl Tryz.call187 (Nat.le_of_ble_eq_true rfl) (g := 1) ?_
  conv => whnf
  repeat' ((first | refine RegP.enter ?_ | refine DrawP.range (by kernel_rfl) ?_ | refine BuildP.frz ⟨rfl, ?_⟩ | refine BoxP.row ?_ | refine And.intro (Nat.succ_pos _) ?_ | fail); conv => whnf)
  rw [show decide (k ≥ 20000) = true from decide_eq_true h]
  conv => whnf
  repeat' ((first | refine RegP.enter ?_ | refine DrawP.range (by kernel_rfl) ?_ | refine BuildP.frz ⟨rfl, ?_⟩ | refine BoxP.row ?_ | refine And.intro (Nat.succ_pos _) ?_ | fail); conv => whnf)
  refine call_mm [] 2 0 (fail_ok 54) ?_ ?_ ?_
  · conv => whnf
    (iterate 3 ((all_goals try (conv => whnf)); (repeat' first | exact ⟨⟩ | refine And.intro ?_ ?_ | rfl | exact fun _ h => h | exact .inl rfl | exact none_some | exact .inr in4 | fail)))
    all_goals trace_state
  · intro _; conv => whnf
    (iterate 3 ((all_goals try (conv => whnf)); (repeat' first | exact ⟨⟩ | refine And.intro ?_ ?_ | rfl | exact fun _ h => h | exact .inl rfl | exact none_some | exact .inr in4 | fail)))
  intro x; conv => whnf
  refine ⟨(), _, rfl, Sub.of_check [((0,0,0), .old true (0,0,0))] ?_ (by repeat' first | exact Gen0.emp | exact Gen0.ofH rfl | refine Gen0.put ?_ (by decide) | refine Gen0.put0 ?_ ⟨_, rfl⟩)⟩
  conv => whnf
  (iterate 3 ((all_goals try (conv => whnf)); (repeat' first | exact ⟨⟩ | refine And.intro ?_ ?_ | rfl | exact fun _ h => h | exact .inl rfl | exact none_some | exact .inr in4 | fail)))
theorem step_yes (doc : GV) (k : Int) (h0 : 0 ≤ k) (h : k < 20000) : MSpec cxA 187 [.ptr (0,0,0) 0 0] [((0,0,0), runRow doc k)] (fun _ : Unit => .ret (.tup [])) (fun _ => [((0,0,0), runRow doc (k + 1))]) := by
  refine MSpec.of_WC cxA_ok Tryz.func187 rfl Tryz.call187 (Nat.le_of_ble_eq_true rfl) (g := 1) ?_
  conv => whnf
  repeat' ((first | refine RegP.enter ?_ | refine DrawP.range (by kernel_rfl) ?_ | refine BuildP.frz ⟨rfl, ?_⟩ | refine BoxP.row ?_ | refine And.intro (Nat.succ_pos _) ?_ | fail); conv => whnf)
  rw [show decide (k ≥ 20000) = false from decide_eq_false (by omega)]
  conv => whnf
  repeat' ((first | refine RegP.enter ?_ | refine DrawP.range (by kernel_rfl) ?_ | refine BuildP.frz ⟨rfl, ?_⟩ | refine BoxP.row ?_ | refine And.intro (Nat.succ_pos _) ?_ | fail); conv => whnf)
  refine ⟨(), _, rfl, Sub.of_check [((0,0,0), .old true (0,0,0))] ?_ (by repeat' first | exact Gen0.emp | exact Gen0.ofH rfl | refine Gen0.put ?_ (by decide) | refine Gen0.put0 ?_ ⟨_, rfl⟩)⟩
  conv => whnf
  (iterate 3 ((all_goals try (conv => whnf)); (repeat' first | exact ⟨⟩ | refine And.intro ?_ ?_ | rfl | exact fun _ h => h | exact .inl rfl | exact none_some | exact .inr in4 | fail)))
  all_goals exact wrap64 (by omega) (by omega)
theorem full_ok (g : GV) : PSpec cxA 384 [.agg g.cells] (.ret (.agg (fullM g).cells)) := by
  generalize hr : fullM g = r
  unfold fullM at hr
  refine PSpec.of_WC cxA_ok Tryz.func384 rfl Tryz.call384 (Nat.le_of_ble_eq_true rfl) (g := 1) ?_
  conv => whnf
  repeat' ((first | refine RegP.enter ?_ | refine DrawP.range (by kernel_rfl) ?_ | refine BuildP.frz ⟨rfl, ?_⟩ | refine BoxP.row ?_ | refine And.intro (Nat.succ_pos _) ?_ | fail); conv => whnf)
  cases h : (g.kind == 0)
  · have : decide (g.kind = 0) = false := by simpa using h
    simp only [this] at hr
    subst hr
    conv => whnf
    repeat' ((first | refine RegP.enter ?_ | refine DrawP.range (by kernel_rfl) ?_ | refine BuildP.frz ⟨rfl, ?_⟩ | refine BoxP.row ?_ | refine And.intro (Nat.succ_pos _) ?_ | fail); conv => whnf)
    refine Ent.of_check ?_ rfl
    conv => whnf
    (iterate 3 ((all_goals try (conv => whnf)); (repeat' first | exact ⟨⟩ | refine And.intro ?_ ?_ | rfl | exact fun _ h => h | exact .inl rfl | exact none_some | exact .inr in4 | fail)))
  · have : decide (g.kind = 0) = true := by simpa using h
    simp only [this] at hr
    subst hr
    conv => whnf
    repeat' ((first | refine RegP.enter ?_ | refine DrawP.range (by kernel_rfl) ?_ | refine BuildP.frz ⟨rfl, ?_⟩ | refine BoxP.row ?_ | refine And.intro (Nat.succ_pos _) ?_ | fail); conv => whnf)
    refine Ent.of_check ?_ rfl
    conv => whnf
    (iterate 3 ((all_goals try (conv => whnf)); (repeat' first | exact ⟨⟩ | refine And.intro ?_ ?_ | rfl | exact fun _ h => h | exact .inl rfl | exact none_some | exact .inr in4 | fail)))
theorem newPile_ok : MSpec cxA 382 [.int 6] [] (fun _ : Unit => .ret (.ptr (1,0,0) 0 0)) (fun _ => [((1,0,0), pileRow 0 (1,1,0) 65531), ((1,1,0), .cells 5 80 [])]) := by
  refine MSpec.of_WC cxA_ok Tryz.func382 rfl Tryz.call382 (Nat.le_of_ble_eq_true rfl) (g := 1) ?_
  conv => whnf
  repeat' ((first | refine RegP.enter ?_ | refine DrawP.range (by kernel_rfl) ?_ | refine BuildP.frz ⟨rfl, ?_⟩ | refine BoxP.row ?_ | refine And.intro (Nat.succ_pos _) ?_ | fail); conv => whnf)
  refine ⟨(), _, rfl, Sub.of_check [((1,0,0), .old true (1,6,0)), ((1,1,0), .new 5 80)] ?_ (by repeat' first | exact Gen0.emp | exact Gen0.ofH rfl | refine Gen0.put ?_ (by decide) | refine Gen0.put0 ?_ ⟨_, rfl⟩)⟩
  conv => whnf
  (iterate 3 ((all_goals try (conv => whnf)); (repeat' first | exact ⟨⟩ | refine And.intro ?_ ?_ | rfl | exact fun _ h => h | exact .inl rfl | exact none_some | exact .inr in4 | fail)))
theorem ptake_yes (l : List GV) (room n : Int) (h1 : -1000000 ≤ room - n) (h2 : room - n ≤ 1000000) (h : 0 ≤ room - n) : MSpec cxA 385 [.ptr (0,0,0) 0 0, .int n] (PL l room) (fun _ : Unit => .ret (.tup [])) (fun _ => PL l (room - n)) := by
  refine MSpec.of_WC cxA_ok Tryz.func385 rfl Tryz.call385 (Nat.le_of_ble_eq_true rfl) (g := 1) ?_
  conv => whnf
  repeat' ((first | refine RegP.enter ?_ | refine DrawP.range (by kernel_rfl) ?_ | refine BuildP.frz ⟨rfl, ?_⟩ | refine BoxP.row ?_ | refine And.intro (Nat.succ_pos _) ?_ | fail); conv => whnf)
  rw [show IntKind.i64.wrap (room - n) = room - n from wrap64 (by omega) (by omega), show decide (room - n < 0) = false from decide_eq_false (by omega)]
  conv => whnf
  repeat' ((first | refine RegP.enter ?_ | refine DrawP.range (by kernel_rfl) ?_ | refine BuildP.frz ⟨rfl, ?_⟩ | refine BoxP.row ?_ | refine And.intro (Nat.succ_pos _) ?_ | fail); conv => whnf)
  refine ⟨(), _, rfl, Sub.of_check [((0,0,0), .old true (0,0,0)), ((0,1,0), .old false (0,1,0))] ?_ (by repeat' first | exact Gen0.emp | exact Gen0.ofH rfl | refine Gen0.put ?_ (by decide) | refine Gen0.put0 ?_ ⟨_, rfl⟩)⟩
  conv => whnf
  (iterate 3 ((all_goals try (conv => whnf)); (repeat' first | exact ⟨⟩ | refine And.intro ?_ ?_ | rfl | exact fun _ h => h | exact .inl rfl | exact none_some | exact .inr in4 | fail)))
  all_goals first | exact wrap64 (by omega) (by omega) | exact idfL_map idfL_cells _ | trace_state
theorem ptake_no (l : List GV) (room n : Int) (h1 : -1000000 ≤ room - n) (h2 : room - n ≤ 1000000) (h : room - n < 0) : MSpec cxA 385 [.ptr (0,0,0) 0 0, .int n] (PL l room) (fun _ : Unit => .pan (stopAV 3)) (fun _ => PL l (room - n)) := by
  refine MSpec.of_WC cxA_ok Tryz.func385 rfl Tryz.call385 (Nat.le_of_ble_eq_true rfl) (g := 1) ?_
  conv => whnf
  repeat' ((first | refine RegP.enter ?_ | refine DrawP.range (by kernel_rfl) ?_ | refine BuildP.frz ⟨rfl, ?_⟩ | refine BoxP.row ?_ | refine And.intro (Nat.succ_pos _) ?_ | fail); conv => whnf)
  rw [show IntKind.i64.wrap (room - n) = room - n from wrap64 (by omega) (by omega), show decide (room - n < 0) = true from decide_eq_true h]
  conv => whnf
  repeat' ((first | refine RegP.enter ?_ | refine DrawP.range (by kernel_rfl) ?_ | refine BuildP.frz ⟨rfl, ?_⟩ | refine BoxP.row ?_ | refine And.intro (Nat.succ_pos _) ?_ | fail); conv => whnf)
  refine call_mm [] 2 0 (fail_ok 3) ?_ ?_ ?_
  · conv => whnf
    (iterate 3 ((all_goals try (conv => whnf)); (repeat' first | exact ⟨⟩ | refine And.intro ?_ ?_ | rfl | exact fun _ h => h | exact .inl rfl | exact none_some | exact .inr in4 | fail)))
    all_goals trace_state
  · intro _; conv => whnf
    (iterate 3 ((all_goals try (conv => whnf)); (repeat' first | exact ⟨⟩ | refine And.intro ?_ ?_ | rfl | exact fun _ h => h | exact .inl rfl | exact none_some | exact .inr in4 | fail)))
  intro x; conv => whnf
  refine ⟨(), _, rfl, Sub.of_check [((0,0,0), .old true (0,0,0)), ((0,1,0), .old false (0,1,0))] ?_ (by repeat' first | exact Gen0.emp | exact Gen0.ofH rfl | refine Gen0.put ?_ (by decide) | refine Gen0.put0 ?_ ⟨_, rfl⟩)⟩
  conv => whnf
  (iterate 3 ((all_goals try (conv => whnf)); (repeat' first | exact ⟨⟩ | refine And.intro ?_ ?_ | rfl | exact fun _ h => h | exact .inl rfl | exact none_some | exact .inr in4 | fail)))
  all_goals first | exact wrap64 (by omega) (by omega) | exact idfL_map idfL_cells _ | trace_state
end Go.Eng
namespace Go.Eng
open Go.Proofs
set_option maxRecDepth 10000
theorem sizeM_lo (g : GV) : 0 ≤ sizeM g := by unfold sizeM; split <;> omega
theorem sizeM_hi (g : GV) : sizeM g ≤ 65537 := by unfold sizeM; split <;> omega
theorem get_snoc {α : Type} {l : List α} {a : α} {n : Nat} (h : l.length = n) : (l ++ [a])[n]? = some a := by
  subst h; simp
theorem set_snoc {α : Type} {l : List α} {a b : α} {n : Nat} (h : l.length = n) : (l ++ [a]).set n b = l ++ [b] := by
  subst h; simp
theorem pile_wrap (n : Nat) (hn : n ≤ 65536) (b : Int) (s0 : 0 ≤ b) (s1 : b ≤ 65537) : IntKind.i64.wrap (IntKind.i64.wrap (2 + (ByteArray.mk (Lib.itoa (n : Int)).toArray).size) + b) = 2 + (Lib.itoa (n : Int)).length + b := by
  have il := Lib.itoa_length_le (n : Int) (by omega) (by omega)
  show IntKind.i64.wrap (IntKind.i64.wrap (2 + ((Lib.itoa (n : Int)).toArray.size : Int)) + b) = _
  rw [List.size_toArray]
  rw [wrap64 (x := 2 + ((Lib.itoa (n : Int)).length : Int)) (by omega) (by omega), wrap64 (by omega) (by omega)]
theorem add_no (l : List GV) (g : GV) (room : Int) (h0 : 0 ≤ room) (h1 : room ≤ 65531) (hl : l.length ≤ 65536) (h : pileM l.length g room < 0) : MSpec cxA 383 [.ptr (0,0,0) 0 0, .agg g.cells] (PL l room) (fun _ : Unit => .pan (stopAV 3)) (fun _ => PL l (pileM l.length g room)) := by
  have il := Lib.itoa_length_le (l.length : Int) (by omega) (by omega)
  have s0 := sizeM_lo g
  have s1 := sizeM_hi g
  have hw := pile_wrap l.length hl (sizeM g) s0 s1
  refine MSpec.of_WC cxA_ok Tryz.func383 rfl Tryz.call383 (Nat.le_of_ble_eq_true rfl) (g := 1) ?_
  conv => whnf
  refine RegP.enter ?_
  conv => whnf
  refine BoxP.frz ⟨rfl, ?_⟩
  conv => whnf
  refine RegP.enter ?_
  conv => whnf
  refine DrawP.rangeQ (fun i => !(Nat.beq i 13)) (by kernel_rfl) ?_
  conv => whnf
  refine call_same (itoa_ok (l.length : Int) (by omega) (by omega)) rfl ?_
  conv => whnf
  repeat' ((first | refine RegP.enter ?_ | refine DrawP.range (by kernel_rfl) ?_ | refine BuildP.frz ⟨rfl, ?_⟩ | refine BoxP.row ?_ | refine And.intro (Nat.succ_pos _) ?_ | fail); conv => whnf)
  refine call_same (size_ok g) rfl ?_
  conv => whnf
  unfold pileM at h ⊢
  refine call_mm [((0,0,0), .old true (0,0,0)), ((0,1,0), .old false (0,1,0))] 1 17 (ptake_no l room (2 + (Lib.itoa (l.length : Int)).length + sizeM g) (by omega) (by omega) (by omega)) ?_ ?_ ?_
  · conv => whnf
    (iterate 3 ((all_goals try (conv => whnf)); (repeat' first | exact ⟨⟩ | refine And.intro ?_ ?_ | rfl | exact fun _ h => h | exact .inl rfl | exact none_some | exact .inr in4 | fail)))
    all_goals first | exact hw | exact idfL_map idfL_cells _
  · intro _; conv => whnf
    (iterate 3 ((all_goals try (conv => whnf)); (repeat' first | exact ⟨⟩ | refine And.intro ?_ ?_ | rfl | exact fun _ h => h | exact .inl rfl | exact none_some | exact .inr in4 | fail)))
  intro x; conv => whnf
  refine ⟨(), _, rfl, Sub.of_check [((0,0,0), .old true (0,0,0)), ((0,1,0), .old false (0,1,0))] ?_ (by repeat' first | exact Gen0.emp | exact Gen0.ofH rfl | refine Gen0.put ?_ (by decide) | refine Gen0.put0 ?_ ⟨_, rfl⟩)⟩
  conv => whnf
  (iterate 3 ((all_goals try (conv => whnf)); (repeat' first | exact ⟨⟩ | refine And.intro ?_ ?_ | rfl | exact fun _ h => h | exact .inl rfl | exact none_some | exact .inr in4 | fail)))
  all_goals first | exact renLL_map idfL_cells _ _ | exact idfL_map idfL_cells _
theorem add_yes (l : List GV) (g : GV) (room : Int) (h0 : 0 ≤ room) (h1 : room ≤ 65531) (hl : l.length ≤ 65536) (h : 0 ≤ pileM l.length g room) : MSpec cxA 383 [.ptr (0,0,0) 0 0, .agg g.cells] (PL l room) (fun _ : Unit => .ret (.tup [])) (fun _ => [((0,0,0), pileRow (l.length + 1) (1,1,0) (pileM l.length g room)), ((0,1,0), .dead), ((1,1,0), .cells 5 80 ((l ++ [g]).map GV.cells))]) := by
  have il := Lib.itoa_length_le (l.length : Int) (by omega) (by omega)
  have s0 := sizeM_lo g
  have s1 := sizeM_hi g
  have hw := pile_wrap l.length hl (sizeM g) s0 s1
  refine MSpec.of_WC cxA_ok Tryz.func383 rfl Tryz.call383 (Nat.le_of_ble_eq_true rfl) (g := 1) ?_
  conv => whnf
  refine RegP.enter ?_
  conv => whnf
  refine BoxP.frz ⟨rfl, ?_⟩
  conv => whnf
  refine RegP.enter ?_
  conv => whnf
  refine DrawP.rangeQ (fun i => !(Nat.beq i 13)) (by kernel_rfl) ?_
  conv => whnf
  refine call_same (itoa_ok (l.length : Int) (by omega) (by omega)) rfl ?_
  conv => whnf
  repeat' ((first | refine RegP.enter ?_ | refine DrawP.range (by kernel_rfl) ?_ | refine BuildP.frz ⟨rfl, ?_⟩ | refine BoxP.row ?_ | refine And.intro (Nat.succ_pos _) ?_ | fail); conv => whnf)
  refine call_same (size_ok g) rfl ?_
  conv => whnf
  unfold pileM at h ⊢
  refine call_mm [((0,0,0), .old true (0,0,0)), ((0,1,0), .old false (0,1,0))] 1 17 (ptake_yes l room (2 + (Lib.itoa (l.length : Int)).length + sizeM g) (by omega) (by omega) (by omega)) ?_ ?_ ?_
  · conv => whnf
    (iterate 3 ((all_goals try (conv => whnf)); (repeat' first | exact ⟨⟩ | refine And.intro ?_ ?_ | rfl | exact fun _ h => h | exact .inl rfl | exact none_some | exact .inr in4 | fail)))
    all_goals first | exact hw | exact idfL_map idfL_cells _
  · intro _; conv => whnf
    (iterate 3 ((all_goals try (conv => whnf)); (repeat' first | exact ⟨⟩ | refine And.intro ?_ ?_ | rfl | exact fun _ h => h | exact .inl rfl | exact none_some | exact .inr in4 | fail)))
  intro x; conv => whnf
  refine RegP.enter ?_
  conv => whnf
  refine DrawP.ord ⟨fun i => !(Nat.beq i 5 || Nat.beq i 9 || Nat.beq i 10 || Nat.beq i 14), [0, 1, 2, 3, 4, 5, 6, 7, 8, 11, 12, 13, 9, 10, 14], by kernel_rfl, ?_⟩
  conv => whnf
  repeat' ((first | refine RegP.enter ?_ | refine DrawP.range (by kernel_rfl) ?_ | refine BuildP.frz ⟨rfl, ?_⟩ | refine BoxP.row ?_ | refine And.intro (Nat.succ_pos _) ?_ | fail); conv => whnf)
  refine And.intro (⟨trivial, trivial⟩) ?_
  conv => whnf
  refine And.intro (Nat.zero_lt_one) ?_
  conv => whnf
  refine BuildP.row ?_
  conv => whnf
  refine AppP.grow ⟨⟨by rw [renLL_map idfL_cells]; simp, by simp only [R]; omega⟩, ?_⟩
  conv => whnf
  repeat' ((first | refine RegP.enter ?_ | refine DrawP.range (by kernel_rfl) ?_ | refine BuildP.frz ⟨rfl, ?_⟩ | refine BoxP.row ?_ | refine And.intro (Nat.succ_pos _) ?_ | fail); conv => whnf)
  refine And.intro (⟨rfl, trivial, trivial⟩) ?_
  conv => whnf
  refine And.intro (Nat.lt_succ_self _) ?_
  conv => whnf
  refine And.intro (rfl) ?_
  conv => whnf
  repeat' ((first | refine RegP.enter ?_ | refine DrawP.range (by kernel_rfl) ?_ | refine BuildP.frz ⟨rfl, ?_⟩ | refine BoxP.row ?_ | refine And.intro (Nat.succ_pos _) ?_ | fail); conv => whnf)
  rw [renLL_map idfL_cells, List.drop_zero, List.take_of_length_le (by simp), get_snoc (by simp)]
  conv => whnf
  split
  · rename_i heq
    have hnil : l = [] := by
      have := congrArg List.length heq
      simp at this
      exact this
    subst hnil
    conv => whnf
    repeat' ((first | refine RegP.enter ?_ | refine DrawP.range (by kernel_rfl) ?_ | refine BuildP.frz ⟨rfl, ?_⟩ | refine BoxP.row ?_ | refine And.intro (Nat.succ_pos _) ?_ | fail); conv => whnf)
    refine And.intro (rfl) ?_
    conv => whnf
    repeat' ((first | refine RegP.enter ?_ | refine DrawP.range (by kernel_rfl) ?_ | refine BuildP.frz ⟨rfl, ?_⟩ | refine BoxP.row ?_ | refine And.intro (Nat.succ_pos _) ?_ | fail); conv => whnf)
    refine ⟨(), _, rfl, Sub.of_check [((0,0,0), .old true (0,0,0)), ((0,1,0), .old false (0,1,0)), ((1,1,0), .old false (1,26,0))] ?_ (by repeat' first | exact Gen0.emp | exact Gen0.ofH rfl | refine Gen0.put ?_ (by decide) | refine Gen0.put0 ?_ ⟨_, rfl⟩)⟩
    conv => whnf
    (iterate 3 ((all_goals try (conv => whnf)); (repeat' first | exact ⟨⟩ | refine And.intro ?_ ?_ | rfl | exact fun _ h => h | exact .inl rfl | exact none_some | exact .inr in4 | fail)))
    all_goals first | exact idfL_map idfL_cells _ | (rw [set_snoc (by simp), List.map_append]; rfl)
  · conv => whnf
    repeat' ((first | refine RegP.enter ?_ | refine DrawP.range (by kernel_rfl) ?_ | refine BuildP.frz ⟨rfl, ?_⟩ | refine BoxP.row ?_ | refine And.intro (Nat.succ_pos _) ?_ | fail); conv => whnf)
    refine And.intro (rfl) ?_
    conv => whnf
    repeat' ((first | refine RegP.enter ?_ | refine DrawP.range (by kernel_rfl) ?_ | refine BuildP.frz ⟨rfl, ?_⟩ | refine BoxP.row ?_ | refine And.intro (Nat.succ_pos _) ?_ | fail); conv => whnf)
    refine ⟨(), _, rfl, Sub.of_check [((0,0,0), .old true (0,0,0)), ((0,1,0), .old false (0,1,0)), ((1,1,0), .old false (1,26,0))] ?_ (by repeat' first | exact Gen0.emp | exact Gen0.ofH rfl | refine Gen0.put ?_ (by decide) | refine Gen0.put0 ?_ ⟨_, rfl⟩)⟩
    conv => whnf
    (iterate 3 ((all_goals try (conv => whnf)); (repeat' first | exact ⟨⟩ | refine And.intro ?_ ?_ | rfl | exact fun _ h => h | exact .inl rfl | exact none_some | exact .inr in4 | fail)))
    all_goals first | exact idfL_map idfL_cells _ | (rw [set_snoc (by simp), List.map_append]; rfl)
end Go.Eng
namespace Go.Eng
open Go.Proofs
set_option maxRecDepth 10000
/-- The method of an expression. -/
def evFn : Nd → FuncId
  | .lit _ => 386
  | .con _ => 387
  | .fld _ => 380
  | .var _ _ => 378
  | .lst _ => 381
  | .docm _ => 445
  | .loop _ _ _ _ _ => 446
  | .call _ _ => 388
def EvOk (ev : Nd → GV → List (ByteArray × GV) → Int → Rs GV) : Prop :=
  ∀ x doc s k, StepOk k → RsSpec (evFn x) [x.val, .ptr (0,0,0) 0 0, scAV s] doc k (ev x doc s k) ∧ RsBd k (ev x doc s k)
theorem lit_ok (g doc : GV) (s : List (ByteArray × GV)) (k : Int) : RsSpec 386 [.agg g.cells, .ptr (0,0,0) 0 0, scAV s] doc k (.ok g k) := by
  refine MSpec.of_WC cxA_ok Tryz.func386 rfl Tryz.call386 (Nat.le_of_ble_eq_true rfl) (g := 1) ?_
  conv => whnf
  repeat' ((first | refine RegP.enter ?_ | refine DrawP.range (by kernel_rfl) ?_ | refine BuildP.frz ⟨rfl, ?_⟩ | refine BoxP.row ?_ | refine And.intro (Nat.succ_pos _) ?_ | fail); conv => whnf)
  refine ⟨(), _, rfl, Sub.of_check [((0,0,0), .old true (0,0,0))] ?_ (by repeat' first | exact Gen0.emp | exact Gen0.ofH rfl | refine Gen0.put ?_ (by decide) | refine Gen0.put0 ?_ ⟨_, rfl⟩)⟩
  conv => whnf
  (iterate 3 ((all_goals try (conv => whnf)); (repeat' first | exact ⟨⟩ | refine And.intro ?_ ?_ | rfl | exact fun _ h => h | exact .inl rfl | exact none_some | exact .inr in4 | fail)))
theorem con_ok (g doc : GV) (s : List (ByteArray × GV)) (k : Int) : RsSpec 387 [.agg g.cells, .ptr (0,0,0) 0 0, scAV s] doc k (.ok g k) := by
  refine MSpec.of_WC cxA_ok Tryz.func387 rfl Tryz.call387 (Nat.le_of_ble_eq_true rfl) (g := 1) ?_
  conv => whnf
  repeat' ((first | refine RegP.enter ?_ | refine DrawP.range (by kernel_rfl) ?_ | refine BuildP.frz ⟨rfl, ?_⟩ | refine BoxP.row ?_ | refine And.intro (Nat.succ_pos _) ?_ | fail); conv => whnf)
  refine ⟨(), _, rfl, Sub.of_check [((0,0,0), .old true (0,0,0))] ?_ (by repeat' first | exact Gen0.emp | exact Gen0.ofH rfl | refine Gen0.put ?_ (by decide) | refine Gen0.put0 ?_ ⟨_, rfl⟩)⟩
  conv => whnf
  (iterate 3 ((all_goals try (conv => whnf)); (repeat' first | exact ⟨⟩ | refine And.intro ?_ ?_ | rfl | exact fun _ h => h | exact .inl rfl | exact none_some | exact .inr in4 | fail)))
theorem pick_ok (ps : List ByteArray) (g : GV) : PSpec cxA 379 [.agg g.cells, .lz (.gs ps)] (.ret (.agg (pickM ps g).cells)) := pick_spec _ g (Nat.lt_succ_self _) ps
theorem fld_ok (ps : List ByteArray) (doc : GV) (s : List (ByteArray × GV)) (k : Int) : RsSpec 380 [.lz (.gs ps), .ptr (0,0,0) 0 0, scAV s] doc k (.ok (pickM ps doc) k) := by
  refine MSpec.of_WC cxA_ok Tryz.func380 rfl Tryz.call380 (Nat.le_of_ble_eq_true rfl) (g := 1) ?_
  conv => whnf
  repeat' ((first | refine RegP.enter ?_ | refine DrawP.range (by kernel_rfl) ?_ | refine BuildP.frz ⟨rfl, ?_⟩ | refine BoxP.row ?_ | refine And.intro (Nat.succ_pos _) ?_ | refine call_same (pick_ok ps doc) rfl ?_ | fail); conv => whnf)
  refine ⟨(), _, rfl, Sub.of_check [((0,0,0), .old true (0,0,0))] ?_ (by repeat' first | exact Gen0.emp | exact Gen0.ofH rfl | refine Gen0.put ?_ (by decide) | refine Gen0.put0 ?_ ⟨_, rfl⟩)⟩
  conv => whnf
  (iterate 3 ((all_goals try (conv => whnf)); (repeat' first | exact ⟨⟩ | refine And.intro ?_ ?_ | rfl | exact fun _ h => h | exact .inl rfl | exact none_some | exact .inr in4 | fail)))
theorem var_ok (n : ByteArray) (ps : List ByteArray) (doc : GV) (s : List (ByteArray × GV)) (k : Int) : RsSpec 378 [.agg [.str n, .lz (.gs ps)], .ptr (0,0,0) 0 0, scAV s] doc k (.ok (pickM ps (match lookS n s with | some g => g | none => doc)) k) := by
  generalize hr : pickM ps (match lookS n s with | some g => g | none => doc) = r
  refine MSpec.of_WC cxA_ok Tryz.func378 rfl Tryz.call378 (Nat.le_of_ble_eq_true rfl) (g := 1) ?_
  conv => whnf
  refine RegP.enter ?_
  conv => whnf
  refine BoxP.frz ⟨rfl, ?_⟩
  conv => whnf
  repeat' ((first | refine RegP.enter ?_ | refine DrawP.range (by kernel_rfl) ?_ | refine BuildP.frz ⟨rfl, ?_⟩ | refine BoxP.row ?_ | refine And.intro (Nat.succ_pos _) ?_ | fail); conv => whnf)
  refine ⟨2, {q : List (ByteArray × GV) // pickM ps (match lookS n q with | some g => g | none => doc) = r}, fun i => ([(1, .ptr (0,0,0) 0 0), (2, scAV i.1), (3, .fptr 2 1 (fun _ => [.str n, .lz (.gs ps)]) 0 0), (6, .ptr (1,6,0) 0 0)], [((0,0,0), runRow doc k), ((1,6,0), .cells 5 80 [[.int 0, .int 0, .str ⟨#[]⟩, .nil, .nil]])]), fun i => i.1.length, ⟨⟨s, hr⟩, Sub.of_check [((0,0,0), .old true (0,0,0)), ((1,6,0), .old true (1,6,0))] ?_ (by repeat' first | exact Gen0.emp | exact Gen0.ofH rfl | refine Gen0.put ?_ (by decide) | refine Gen0.put0 ?_ ⟨_, rfl⟩)⟩, fun ⟨q, hq⟩ => ?_⟩
  · conv => whnf
    (iterate 3 ((all_goals try (conv => whnf)); (repeat' first | exact ⟨⟩ | refine And.intro ?_ ?_ | rfl | exact fun _ h => h | exact .inl rfl | exact none_some | exact .inr in4 | fail)))
    all_goals exact leK_refl _ (idf_sc _)
  conv => whnf
  cases q with
  | nil =>
    replace hq : pickM ps doc = r := hq
    subst hq
    repeat' ((first | refine RegP.enter ?_ | refine DrawP.range (by kernel_rfl) ?_ | refine BuildP.frz ⟨rfl, ?_⟩ | refine BoxP.row ?_ | refine And.intro (Nat.succ_pos _) ?_ | refine call_same (pick_ok ps doc) rfl ?_ | fail); conv => whnf)
    refine ⟨(), _, rfl, Sub.of_check [((0,0,0), .old true (0,0,0))] ?_ (by repeat' first | exact Gen0.emp | exact Gen0.ofH rfl | refine Gen0.put ?_ (by decide) | refine Gen0.put0 ?_ ⟨_, rfl⟩)⟩
    conv => whnf
    (iterate 3 ((all_goals try (conv => whnf)); (repeat' first | exact ⟨⟩ | refine And.intro ?_ ?_ | rfl | exact fun _ h => h | exact .inl rfl | exact none_some | exact .inr in4 | fail)))
  | cons f q =>
    obtain ⟨m, v⟩ := f
    repeat' ((first | refine RegP.enter ?_ | refine DrawP.range (by kernel_rfl) ?_ | refine BuildP.frz ⟨rfl, ?_⟩ | refine BoxP.row ?_ | refine And.intro (Nat.succ_pos _) ?_ | fail); conv => whnf)
    unfold lookS at hq
    cases hm : decide (m = n)
    · rw [hm] at hq
      conv => whnf
      repeat' ((first | refine RegP.enter ?_ | refine DrawP.range (by kernel_rfl) ?_ | refine BuildP.frz ⟨rfl, ?_⟩ | refine BoxP.row ?_ | refine And.intro (Nat.succ_pos _) ?_ | fail); conv => whnf)
      refine ⟨⟨q, hq⟩, (by simp), Sub.of_check [((0,0,0), .old true (0,0,0)), ((1,6,0), .old true (1,6,0))] ?_ (by repeat' first | exact Gen0.emp | exact Gen0.ofH rfl | refine Gen0.put ?_ (by decide) | refine Gen0.put0 ?_ ⟨_, rfl⟩)⟩
      conv => whnf
      (iterate 3 ((all_goals try (conv => whnf)); (repeat' first | exact ⟨⟩ | refine And.intro ?_ ?_ | rfl | exact fun _ h => h | exact .inl rfl | exact none_some | exact .inr in4 | fail)))
      all_goals exact leK_refl _ (idf_sc _)
    · rw [hm] at hq
      replace hq : pickM ps v = r := hq
      subst hq
      conv => whnf
      repeat' ((first | refine RegP.enter ?_ | refine DrawP.range (by kernel_rfl) ?_ | refine BuildP.frz ⟨rfl, ?_⟩ | refine BoxP.row ?_ | refine And.intro (Nat.succ_pos _) ?_ | refine call_same (pick_ok ps v) rfl ?_ | fail); conv => whnf)
      refine ⟨(), _, rfl, Sub.of_check [((0,0,0), .old true (0,0,0))] ?_ (by repeat' first | exact Gen0.emp | exact Gen0.ofH rfl | refine Gen0.put ?_ (by decide) | refine Gen0.put0 ?_ ⟨_, rfl⟩)⟩
      conv => whnf
      (iterate 3 ((all_goals try (conv => whnf)); (repeat' first | exact ⟨⟩ | refine And.intro ?_ ?_ | rfl | exact fun _ h => h | exact .inl rfl | exact none_some | exact .inr in4 | fail)))
end Go.Eng

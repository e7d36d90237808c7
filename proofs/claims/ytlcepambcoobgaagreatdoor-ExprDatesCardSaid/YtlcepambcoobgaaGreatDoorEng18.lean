/- Eng18: an engine for the program's code, and walks of its functions (Wk Wl Wm Ev). -/
import Derived.Test.YtlcepambcoobgaaGreatDoorEng17
namespace Go.Eng
open Go.Proofs
set_option maxRecDepth 10000
theorem clone_spec : ∀ (n : Nat) (g : GV), SizeOf.sizeOf g < n → PSpec cxA 64 [.agg g.cells] (.ret (.agg g.cells)) := by
  intro n
  induction n with
  | zero => intro g h; exact absurd h (Nat.not_lt_zero _)
  | succ n ih =>
  intro g hg
  obtain ⟨kind, int, text, list, doc⟩ := g
  refine PSpec.of_WC cxA_ok Tryz.func64 rfl Tryz.call64 (Nat.le_of_ble_eq_true rfl) (g := 1) ?_
  conv => whnf
  repeat' first | (refine RegP.enter ?_; conv => whnf) | (refine DrawP.range (by kernel_rfl) ?_; conv => whnf) | (refine BuildP.frz ⟨rfl, ?_⟩; conv => whnf) | (refine BoxP.row ?_; conv => whnf) | (refine And.intro Nat.zero_lt_one ?_; conv => whnf) | (refine And.intro (Nat.succ_pos _) ?_; conv => whnf) | fail
  refine ⟨2, {i : Nat // i ≤ list.length}, fun i => ([(1, .ptr (1,1,0) 0 0), (2, .ptr (1,2,0) 0 0), (4, .lz (.gd doc)), (15, .lz (.gl list)), (16, .int list.length), (17, .int i.1)], [((1,1,0), .cells 5 80 [[.int kind, .int int, .str text, .row (2,0,0) 0 i.1 none, .nil]]), ((1,2,0), .cells 5 80 [[.int 0, .int 0, .str ⟨#[]⟩, .nil, .nil]]), ((2,0,0), .cells 5 80 ((list.take i.1).map GV.cells))]), fun i => list.length - i.1, ⟨⟨0, Nat.zero_le _⟩, Sub.of_check [((1,1,0), .old true (1,1,0)), ((1,2,0), .old true (1,2,0)), ((2,0,0), .new 5 80)] ?_ (by repeat' first | exact Gen0.emp | exact Gen0.ofH rfl | refine Gen0.put ?_ (by decide) | refine Gen0.put0 ?_ ⟨_, rfl⟩)⟩, fun ⟨i, hi⟩ => ?_⟩
  · conv => whnf
    (iterate 3 ((all_goals try (conv => whnf)); (repeat' first | exact True.intro | (refine And.intro ?_ ?_) | rfl | exact fun _ h => h | exact .inl rfl | exact none_some | exact .inr ⟨rfl, rfl, fun _ _ => rfl⟩ | exact .inr ⟨rfl, rfl, lt1 rfl⟩ | exact .inr ⟨rfl, rfl, lt2 rfl rfl⟩ | exact .inr ⟨rfl, rfl, lt3 rfl rfl rfl⟩ | fail)))
  conv => whnf
  refine RegP.go fun hf => ?_
  conv => whnf
  refine br (fun hl => ?_) (fun hl => ?_)
  · have hlt : i < list.length := by simpa using hl
    have hRl := hf.lz 15 _ _ _ _ _ _ rfl rfl
    try rw [hl]
    conv => whnf
    refine RegP.enter ?_
    conv => whnf
    refine And.intro (hlt) ?_
    conv => whnf
    refine And.intro (hlt) ?_
    conv => whnf
    repeat' first | (refine RegP.enter ?_; conv => whnf) | (refine DrawP.range (by kernel_rfl) ?_; conv => whnf) | (refine BuildP.frz ⟨rfl, ?_⟩; conv => whnf) | (refine BoxP.row ?_; conv => whnf) | (refine And.intro Nat.zero_lt_one ?_; conv => whnf) | (refine And.intro (Nat.succ_pos _) ?_; conv => whnf) | fail
    have hsm := GV.sizeOf_list (k := kind) (n := int) (t := text) (d := doc) (show list.getD i default ∈ list by simp [hlt])
    refine call_same (ih (list.getD i default) (by omega)) rfl ?_
    conv => whnf
    refine BuildP.row ?_
    conv => whnf
    refine AppP.grow ⟨⟨by simp; omega, Nat.le_trans (Nat.mul_le_mul_right _ hlt) hRl⟩, ?_⟩
    conv => whnf
    repeat' first | (refine RegP.enter ?_; conv => whnf) | (refine DrawP.range (by kernel_rfl) ?_; conv => whnf) | (refine BuildP.frz ⟨rfl, ?_⟩; conv => whnf) | (refine BoxP.row ?_; conv => whnf) | (refine And.intro Nat.zero_lt_one ?_; conv => whnf) | (refine And.intro (Nat.succ_pos _) ?_; conv => whnf) | fail
    refine ⟨⟨i + 1, hlt⟩, (by show list.length - (i + 1) < list.length - i; omega), Sub.of_check [((1,1,0), .old true (1,1,0)), ((1,2,0), .old true (1,2,0)), ((2,0,0), .old false (2,26,0))] ?_ (by repeat' first | exact Gen0.emp | exact Gen0.ofH rfl | refine Gen0.put ?_ (by decide) | refine Gen0.put0 ?_ ⟨_, rfl⟩)⟩
    conv => whnf
    (iterate 3 ((all_goals try (conv => whnf)); (repeat' first | exact True.intro | (refine And.intro ?_ ?_) | rfl | exact fun _ h => h | exact .inl rfl | exact none_some | exact .inr ⟨rfl, rfl, fun _ _ => rfl⟩ | exact .inr ⟨rfl, rfl, lt1 rfl⟩ | exact .inr ⟨rfl, rfl, lt2 rfl rfl⟩ | exact .inr ⟨rfl, rfl, lt3 rfl rfl rfl⟩ | fail)))
    all_goals first | exact wrap_succ hlt (le_of_mul (k := 79) hRl) | exact take_snoc GV.cells hlt | exact idfL_map idfL_cells _
  have hge : i = list.length := by
    have : ¬ i < list.length := by simpa using hl
    omega
  subst hge
  try rw [hl]
  conv => whnf
  repeat' first | (refine RegP.enter ?_; conv => whnf) | (refine DrawP.range (by kernel_rfl) ?_; conv => whnf) | (refine BuildP.frz ⟨rfl, ?_⟩; conv => whnf) | (refine BoxP.row ?_; conv => whnf) | (refine And.intro Nat.zero_lt_one ?_; conv => whnf) | (refine And.intro (Nat.succ_pos _) ?_; conv => whnf) | fail
  refine ⟨3, {i : Nat // i ≤ doc.length}, fun i => ([(1, .ptr (1,1,0) 0 0), (2, .ptr (1,2,0) 0 0), (29, .lz (.gd doc)), (30, .int doc.length), (31, .int i.1)], [((1,1,0), .cells 5 80 [[.int kind, .int int, .str text, .lz (.gl list), .row (3,0,0) 0 i.1 none]]), ((1,2,0), .cells 5 80 [[.int 0, .int 0, .str ⟨#[]⟩, .nil, .nil]]), ((3,0,0), .cells 6 96 ((doc.take i.1).map fcells))]), fun i => doc.length - i.1, ⟨⟨0, Nat.zero_le _⟩, Sub.of_check [((1,1,0), .old true (1,1,0)), ((1,2,0), .old true (1,2,0)), ((3,0,0), .new 6 96)] ?_ (by repeat' first | exact Gen0.emp | exact Gen0.ofH rfl | refine Gen0.put ?_ (by decide) | refine Gen0.put0 ?_ ⟨_, rfl⟩)⟩, fun ⟨i, hi⟩ => ?_⟩
  · conv => whnf
    (iterate 3 ((all_goals try (conv => whnf)); (repeat' first | exact True.intro | (refine And.intro ?_ ?_) | rfl | exact fun _ h => h | exact .inl rfl | exact none_some | exact .inr ⟨rfl, rfl, fun _ _ => rfl⟩ | exact .inr ⟨rfl, rfl, lt1 rfl⟩ | exact .inr ⟨rfl, rfl, lt2 rfl rfl⟩ | exact .inr ⟨rfl, rfl, lt3 rfl rfl rfl⟩ | fail)))
    all_goals first | (simp; done) | exact frz_map idfL_cells (Nat.le_refl _)
  conv => whnf
  refine RegP.go fun hf => ?_
  conv => whnf
  refine br (fun hl2 => ?_) (fun hl2 => ?_)
  · have hlt : i < doc.length := by simpa using hl2
    have hRl := hf.lz 29 _ _ _ _ _ _ rfl rfl
    try rw [hl2]
    conv => whnf
    refine RegP.enter ?_
    conv => whnf
    refine And.intro (hlt) ?_
    conv => whnf
    refine And.intro (hlt) ?_
    conv => whnf
    repeat' first | (refine RegP.enter ?_; conv => whnf) | (refine DrawP.range (by kernel_rfl) ?_; conv => whnf) | (refine BuildP.frz ⟨rfl, ?_⟩; conv => whnf) | (refine BoxP.row ?_; conv => whnf) | (refine And.intro Nat.zero_lt_one ?_; conv => whnf) | (refine And.intro (Nat.succ_pos _) ?_; conv => whnf) | fail
    have hsm := GV.sizeOf_doc (k := kind) (n := int) (t := text) (l := list) (show doc.getD i default ∈ doc by simp [hlt])
    refine call_same (ih (doc.getD i default).2 (by omega)) rfl ?_
    conv => whnf
    refine BuildP.row ?_
    conv => whnf
    refine AppP.grow ⟨⟨by simp; omega, Nat.le_trans (Nat.mul_le_mul_right _ hlt) hRl⟩, ?_⟩
    conv => whnf
    repeat' first | (refine RegP.enter ?_; conv => whnf) | (refine DrawP.range (by kernel_rfl) ?_; conv => whnf) | (refine BuildP.frz ⟨rfl, ?_⟩; conv => whnf) | (refine BoxP.row ?_; conv => whnf) | (refine And.intro Nat.zero_lt_one ?_; conv => whnf) | (refine And.intro (Nat.succ_pos _) ?_; conv => whnf) | fail
    refine ⟨⟨i + 1, hlt⟩, (by show doc.length - (i + 1) < doc.length - i; omega), Sub.of_check [((1,1,0), .old true (1,1,0)), ((1,2,0), .old true (1,2,0)), ((3,0,0), .old false (3,44,0))] ?_ (by repeat' first | exact Gen0.emp | exact Gen0.ofH rfl | refine Gen0.put ?_ (by decide) | refine Gen0.put0 ?_ ⟨_, rfl⟩)⟩
    conv => whnf
    (iterate 3 ((all_goals try (conv => whnf)); (repeat' first | exact True.intro | (refine And.intro ?_ ?_) | rfl | exact fun _ h => h | exact .inl rfl | exact none_some | exact .inr ⟨rfl, rfl, fun _ _ => rfl⟩ | exact .inr ⟨rfl, rfl, lt1 rfl⟩ | exact .inr ⟨rfl, rfl, lt2 rfl rfl⟩ | exact .inr ⟨rfl, rfl, lt3 rfl rfl rfl⟩ | fail)))
    all_goals first | exact wrap_succ hlt (le_of_mul (k := 95) hRl) | exact take_snoc fcells hlt | exact idfL_map idfL_fcells _
  have hge : i = doc.length := by
    have : ¬ i < doc.length := by simpa using hl2
    omega
  subst hge
  try rw [hl2]
  conv => whnf
  repeat' first | (refine RegP.enter ?_; conv => whnf) | (refine DrawP.range (by kernel_rfl) ?_; conv => whnf) | (refine BuildP.frz ⟨rfl, ?_⟩; conv => whnf) | (refine BoxP.row ?_; conv => whnf) | (refine And.intro Nat.zero_lt_one ?_; conv => whnf) | (refine And.intro (Nat.succ_pos _) ?_; conv => whnf) | fail
  refine Ent.of_check ?_ rfl
  conv => whnf
  (iterate 3 ((all_goals try (conv => whnf)); (repeat' first | exact True.intro | (refine And.intro ?_ ?_) | rfl | exact fun _ h => h | exact .inl rfl | exact none_some | exact .inr ⟨rfl, rfl, fun _ _ => rfl⟩ | exact .inr ⟨rfl, rfl, lt1 rfl⟩ | exact .inr ⟨rfl, rfl, lt2 rfl rfl⟩ | exact .inr ⟨rfl, rfl, lt3 rfl rfl rfl⟩ | fail)))
  all_goals first | (simp; done) | exact frz_map idfL_fcells (Nat.le_refl _)
theorem clone_ok (g : GV) : PSpec cxA 64 [.agg g.cells] (.ret (.agg g.cells)) := clone_spec _ g (Nat.lt_succ_self _)
/-- A pointer to an expression. -/
def exprAV (x : Nd) : AV := .fptr 1 1 (fun _ => [x.av]) 0 0
theorem wrong_text {k n : Int} {t : ByteArray} {l : List GV} {d : List (ByteArray × GV)} (hw : wrongM (.mk k n t l d) = false) (hs : (GV.mk k n t l d).sz ≤ 65536) : t.size ≤ 65536 := by
  have e0 : t = ⟨#[]⟩ → t.size ≤ 65536 := fun e => by rw [e]; decide
  by_cases h4 : k = 4
  · subst h4; simp [GV.sz] at hs; omega
  by_cases h7 : k = 7
  · subst h7; simp [GV.sz] at hs; omega
  by_cases h8 : k = 8
  · subst h8; simp [wrongM] at hw; omega
  refine e0 ?_
  by_cases h1 : k = 1
  · subst h1; simp [wrongM, dT, dF] at hw; exact hw.1.1.2
  by_cases h2 : k = 2
  · subst h2; simp [wrongM, dT, dF] at hw; exact hw.1.1.2
  by_cases h11 : k = 11
  · subst h11; simp [wrongM, dT, dF] at hw; exact hw.1.1.2
  by_cases h3 : k = 3
  · subst h3; simp [wrongM, dT, dF] at hw; exact hw.1.1
  by_cases h10 : k = 10
  · subst h10; simp [wrongM, dT, dF] at hw; exact hw.1.1
  by_cases h9 : k = 9
  · subst h9; simp [wrongM, dT, dF] at hw; exact hw.1.1.2
  by_cases h5 : k = 5
  · subst h5; simp [wrongM, dT, dF] at hw; exact hw.1.2
  by_cases h6 : k = 6
  · subst h6; simp [wrongM, dT, dF] at hw; exact hw.1.2
  simp [wrongM, h1, h2, h3, h4, h5, h6, h7, h8, h9, h10, h11] at hw
mutual
/- What is right is good. -/
theorem good_of_check : ∀ (g : GV) (n : Nat), g.sz ≤ 65536 → checkM n g = 0 → goodM g = true
  | .mk k i t l d, n, hs, h => by
    unfold checkM at h
    split at h
    · cases h
    split at h
    · cases h
    rename_i hw
    have hl : checkL (n + 1) l = 0 := by
      split at h
      · rename_i e; exact of_decide_eq_true e
      · exact h
    rw [decide_eq_true hl] at h
    replace h : checkD (n + 1) [] d = 0 := h
    have ht : t.size ≤ 65536 := wrong_text hw hs
    simp only [goodM, Bool.and_eq_true, decide_eq_true_eq]
    refine ⟨⟨ht, ?_⟩, ?_⟩
    · cases l with
      | nil => rfl
      | cons a l =>
        obtain rfl := wrong_list hw (by simp)
        have : (5 + szL 0 (a :: l) : Nat) ≤ 65536 := by simpa [GV.sz] using hs
        exact good_of_checkL (a :: l) 0 (n + 1) (by omega) hl
    · cases d with
      | nil => rfl
      | cons a l =>
        obtain rfl := wrong_doc hw (by simp)
        have : (5 + szD (a :: l) : Nat) ≤ 65536 := by simpa [GV.sz] using hs
        exact good_of_checkD (a :: l) [] (n + 1) (by omega) h
theorem good_of_checkL : ∀ (l : List GV) (i n : Nat), szL i l ≤ 65536 → checkL n l = 0 → goodL l = true
  | [], _, _, _, _ => rfl
  | g :: l, i, n, hs, h => by
    simp only [szL] at hs
    unfold checkL at h
    have hg : checkM n g = 0 := by
      split at h
      · rename_i e; exact of_decide_eq_true e
      · exact h
    rw [decide_eq_true hg] at h
    simp only [goodL, Bool.and_eq_true]
    exact ⟨good_of_check g n (by omega) hg, good_of_checkL l (i + 1) n (by omega) h⟩
theorem good_of_checkD : ∀ (l : List (ByteArray × GV)) (m : List ByteArray) (n : Nat), szD l ≤ 65536 → checkD n m l = 0 → goodD l = true
  | [], _, _, _, _ => rfl
  | (a, g) :: l, m, n, hs, h => by
    simp only [szD] at hs
    unfold checkD at h
    split at h
    · cases h
    rename_i hn
    have hg : checkM n g = 0 := by
      split at h
      · rename_i e; exact of_decide_eq_true e
      · exact h
    rw [decide_eq_true hg] at h
    simp only [goodD, Bool.and_eq_true, decide_eq_true_eq]
    refine ⟨⟨?_, good_of_check g n (by omega) hg⟩, good_of_checkD l (a :: m) n (by omega) h⟩
    simp only [Bool.or_eq_false_iff, Bool.not_eq_false', nameM, Bool.and_eq_true] at hn
    exact first_ne hn.2.1.1.1
end
theorem good_of_right {g : GV} (h : rightM g = 0) : goodM g = true := by
  unfold rightM at h
  split at h
  · exact good_of_check g 1 ‹_› h
  · cases h
/-- What Parse answers. -/
def pOut (n : Nat) (g : GV) : List AV := match decide (rightM g = 0) with
  | false => [.lit (.pointer none), .int (rightM g)]
  | true => match parseF n [] g with
    | .yes x => [exprAV x, .int 0]
    | _ => [.lit (.pointer none), .int 50]
theorem pparse_ok (n : Nat) (g : GV) (hu : rightM g = 0 → parseF n [] g ≠ .unk) : PSpec cxA 22 [.agg g.cells] (.ret (.tup (pOut n g))) := by
  generalize hr : pOut n g = r
  unfold pOut at hr
  refine PSpec.of_WC cxA_ok Tryz.func22 rfl Tryz.call22 (Nat.le_of_ble_eq_true rfl) (g := 1) ?_
  conv => whnf
  refine RegP.enter ?_
  conv => whnf
  refine BoxP.frz ⟨rfl, ?_⟩
  conv => whnf
  repeat' first | (refine RegP.enter ?_; conv => whnf) | (refine DrawP.range (by kernel_rfl) ?_; conv => whnf) | (refine BuildP.frz ⟨rfl, ?_⟩; conv => whnf) | (refine BoxP.row ?_; conv => whnf) | (refine And.intro Nat.zero_lt_one ?_; conv => whnf) | (refine And.intro (Nat.succ_pos _) ?_; conv => whnf) | (refine call_same (right_ok g) rfl ?_; conv => whnf) | fail
  cases h0 : (rightM g != 0)
  rotate_left
  · have : decide (rightM g = 0) = false := by simpa using h0
    simp only [this] at hr
    subst hr
    conv => whnf
    repeat' first | (refine RegP.enter ?_; conv => whnf) | (refine DrawP.range (by kernel_rfl) ?_; conv => whnf) | (refine BuildP.frz ⟨rfl, ?_⟩; conv => whnf) | (refine BoxP.row ?_; conv => whnf) | (refine And.intro Nat.zero_lt_one ?_; conv => whnf) | (refine And.intro (Nat.succ_pos _) ?_; conv => whnf) | fail
    refine Ent.of_check ?_ rfl
    conv => whnf
    (iterate 3 ((all_goals try (conv => whnf)); (repeat' first | exact True.intro | (refine And.intro ?_ ?_) | rfl | exact fun _ h => h | exact .inl rfl | exact none_some | exact .inr ⟨rfl, rfl, fun _ _ => rfl⟩ | exact .inr ⟨rfl, rfl, lt1 rfl⟩ | exact .inr ⟨rfl, rfl, lt2 rfl rfl⟩ | exact .inr ⟨rfl, rfl, lt3 rfl rfl rfl⟩ | fail)))
  have hz : rightM g = 0 := by simpa using h0
  simp only [decide_eq_true hz] at hr
  have hlaw := parse_ok n [] g (good_of_right hz) (hu hz)
  conv => whnf
  repeat' first | (refine RegP.enter ?_; conv => whnf) | (refine DrawP.range (by kernel_rfl) ?_; conv => whnf) | (refine BuildP.frz ⟨rfl, ?_⟩; conv => whnf) | (refine BoxP.row ?_; conv => whnf) | (refine And.intro Nat.zero_lt_one ?_; conv => whnf) | (refine And.intro (Nat.succ_pos _) ?_; conv => whnf) | (refine call_same (clone_ok g) rfl ?_; conv => whnf) | fail
  cases hx : parseF n [] g with
  | unk => exact absurd hx (hu hz)
  | no =>
    rw [hx] at hlaw hr
    subst hr
    refine call_le (hlaw) ?_ (by rfl) (by rfl) ?_
    · (iterate 3 ((all_goals try (conv => whnf)); (repeat' first | exact True.intro | (refine And.intro ?_ ?_) | rfl | exact fun _ h => h | exact .inl rfl | exact none_some | exact .inr ⟨rfl, rfl, fun _ _ => rfl⟩ | exact .inr ⟨rfl, rfl, lt1 rfl⟩ | exact .inr ⟨rfl, rfl, lt2 rfl rfl⟩ | exact .inr ⟨rfl, rfl, lt3 rfl rfl rfl⟩ | fail)))
    conv => whnf
    repeat' first | (refine RegP.enter ?_; conv => whnf) | (refine DrawP.range (by kernel_rfl) ?_; conv => whnf) | (refine BuildP.frz ⟨rfl, ?_⟩; conv => whnf) | (refine BoxP.row ?_; conv => whnf) | (refine And.intro Nat.zero_lt_one ?_; conv => whnf) | (refine And.intro (Nat.succ_pos _) ?_; conv => whnf) | fail
    refine Ent.of_check ?_ rfl
    conv => whnf
    (iterate 3 ((all_goals try (conv => whnf)); (repeat' first | exact True.intro | (refine And.intro ?_ ?_) | rfl | exact fun _ h => h | exact .inl rfl | exact none_some | exact .inr ⟨rfl, rfl, fun _ _ => rfl⟩ | exact .inr ⟨rfl, rfl, lt1 rfl⟩ | exact .inr ⟨rfl, rfl, lt2 rfl rfl⟩ | exact .inr ⟨rfl, rfl, lt3 rfl rfl rfl⟩ | fail)))
  | yes x =>
    rw [hx] at hlaw hr
    subst hr
    refine call_le (hlaw) ?_ (by rfl) (by rfl) ?_
    · (iterate 3 ((all_goals try (conv => whnf)); (repeat' first | exact True.intro | (refine And.intro ?_ ?_) | rfl | exact fun _ h => h | exact .inl rfl | exact none_some | exact .inr ⟨rfl, rfl, fun _ _ => rfl⟩ | exact .inr ⟨rfl, rfl, lt1 rfl⟩ | exact .inr ⟨rfl, rfl, lt2 rfl rfl⟩ | exact .inr ⟨rfl, rfl, lt3 rfl rfl rfl⟩ | fail)))
    conv => whnf
    refine RegP.enter ?_
    conv => whnf
    refine RegP.enter ?_
    conv => whnf
    refine BoxP.frz ⟨by simp [idfL, idf.idfL, cellsOf, idf_av], ?_⟩
    conv => whnf
    refine Ent.of_check ?_ rfl
    conv => whnf
    (iterate 3 ((all_goals try (conv => whnf)); (repeat' first | exact True.intro | (refine And.intro ?_ ?_) | rfl | exact fun _ h => h | exact .inl rfl | exact none_some | exact .inr ⟨rfl, rfl, fun _ _ => rfl⟩ | exact .inr ⟨rfl, rfl, lt1 rfl⟩ | exact .inr ⟨rfl, rfl, lt2 rfl rfl⟩ | exact .inr ⟨rfl, rfl, lt3 rfl rfl rfl⟩ | fail)))
end Go.Eng
namespace Go.Eng
open Go.Proofs
set_option maxRecDepth 10000
/-- slices.IndexFunc over fields, of a function that only computes. -/
theorem indexFuncF_ok (l : List (ByteArray × GV)) (f : FuncId) (a b : List AV) (ha : idfL a = true) (hb : idfL b = true) (p : ByteArray × GV → Bool) (hp : ∀ s, s ∈ l → PSpec cxA f (a ++ [.agg (fcells s)] ++ b) (.ret (.bool (p s)))) :
    PSpec cxA 297 [.lz (.gd l), .clo (.func f) a b] (.ret (.int (idxI p l))) := by
  generalize hr : idxI p l = r
  refine PSpec.of_WC cxA_ok Tryz.func297 rfl Tryz.call297 (Nat.le_of_ble_eq_true rfl) (g := 1) ?_
  conv => whnf
  repeat' first | (refine RegP.enter ?_; conv => whnf) | (refine DrawP.range (by kernel_rfl) ?_; conv => whnf) | (refine BuildP.frz ⟨rfl, ?_⟩; conv => whnf) | (refine BoxP.row ?_; conv => whnf) | (refine And.intro Nat.zero_lt_one ?_; conv => whnf) | (refine And.intro (Nat.succ_pos _) ?_; conv => whnf) | fail
  refine ⟨2, {i : Nat // i ≤ l.length ∧ ∀ j, j < i → p (l.getD j default) = false}, fun i => ([(0, .lz (.gd l)), (1, .clo (.func f) a b), (7, .int l.length), (8, .int i.1)], []), fun i => l.length - i.1, ⟨⟨0, Nat.zero_le _, fun _ h => absurd h (Nat.not_lt_zero _)⟩, Sub.of_check [] ?_ (by repeat' first | exact Gen0.emp | exact Gen0.ofH rfl | refine Gen0.put ?_ (by decide) | refine Gen0.put0 ?_ ⟨_, rfl⟩)⟩, fun ⟨i, hi, hia⟩ => ?_⟩
  · conv => whnf
    (iterate 3 ((all_goals try (conv => whnf)); (repeat' first | exact True.intro | (refine And.intro ?_ ?_) | rfl | exact fun _ h => h | exact .inl rfl | exact none_some | exact .inr ⟨rfl, rfl, fun _ _ => rfl⟩ | exact .inr ⟨rfl, rfl, lt1 rfl⟩ | exact .inr ⟨rfl, rfl, lt2 rfl rfl⟩ | exact .inr ⟨rfl, rfl, lt3 rfl rfl rfl⟩ | fail)))
    all_goals first | exact leL_refl _ ha | exact leL_refl _ hb
  conv => whnf
  refine RegP.go fun hf => ?_
  conv => whnf
  refine br (fun hl => ?_) (fun hl => ?_)
  rotate_left
  · have hge : i = l.length := by
      have : ¬ i < l.length := by simpa using hl
      omega
    try rw [hl]
    conv => whnf
    repeat' first | (refine RegP.enter ?_; conv => whnf) | (refine DrawP.range (by kernel_rfl) ?_; conv => whnf) | (refine BuildP.frz ⟨rfl, ?_⟩; conv => whnf) | (refine BoxP.row ?_; conv => whnf) | (refine And.intro Nat.zero_lt_one ?_; conv => whnf) | (refine And.intro (Nat.succ_pos _) ?_; conv => whnf) | fail
    refine Ent.of_check ?_ rfl
    conv => whnf
    (iterate 3 ((all_goals try (conv => whnf)); (repeat' first | exact True.intro | (refine And.intro ?_ ?_) | rfl | exact fun _ h => h | exact .inl rfl | exact none_some | exact .inr ⟨rfl, rfl, fun _ _ => rfl⟩ | exact .inr ⟨rfl, rfl, lt1 rfl⟩ | exact .inr ⟨rfl, rfl, lt2 rfl rfl⟩ | exact .inr ⟨rfl, rfl, lt3 rfl rfl rfl⟩ | fail)))
    rw [← hr, idxI_none (by rw [← hge]; exact hia)]
  have hlt : i < l.length := by simpa using hl
  have hR := le_of_mul (k := 95) (hf.lz 0 _ _ _ _ _ _ rfl rfl)
  have hmem : l.getD i default ∈ l := by simp [hlt]
  try rw [hl]
  conv => whnf
  repeat' first | (refine RegP.enter ?_; conv => whnf) | (refine DrawP.range (by kernel_rfl) ?_; conv => whnf) | (refine BuildP.frz ⟨rfl, ?_⟩; conv => whnf) | (refine BoxP.row ?_; conv => whnf) | (refine And.intro Nat.zero_lt_one ?_; conv => whnf) | (refine And.intro (Nat.succ_pos _) ?_; conv => whnf) | fail
  refine And.intro (hlt) ?_
  conv => whnf
  refine And.intro (hlt) ?_
  conv => whnf
  refine call_same (hp _ hmem) (by rw [idfL_app, idfL_app, ha, hb]; rfl) ?_
  conv => whnf
  refine br (fun hx => ?_) (fun hx => ?_)
  · try rw [hx]
    conv => whnf
    repeat' first | (refine RegP.enter ?_; conv => whnf) | (refine DrawP.range (by kernel_rfl) ?_; conv => whnf) | (refine BuildP.frz ⟨rfl, ?_⟩; conv => whnf) | (refine BoxP.row ?_; conv => whnf) | (refine And.intro Nat.zero_lt_one ?_; conv => whnf) | (refine And.intro (Nat.succ_pos _) ?_; conv => whnf) | fail
    refine Ent.of_check ?_ rfl
    conv => whnf
    (iterate 3 ((all_goals try (conv => whnf)); (repeat' first | exact True.intro | (refine And.intro ?_ ?_) | rfl | exact fun _ h => h | exact .inl rfl | exact none_some | exact .inr ⟨rfl, rfl, fun _ _ => rfl⟩ | exact .inr ⟨rfl, rfl, lt1 rfl⟩ | exact .inr ⟨rfl, rfl, lt2 rfl rfl⟩ | exact .inr ⟨rfl, rfl, lt3 rfl rfl rfl⟩ | fail)))
    rw [← hr, idxI_some hlt hx hia]
  · try rw [hx]
    conv => whnf
    repeat' first | (refine RegP.enter ?_; conv => whnf) | (refine DrawP.range (by kernel_rfl) ?_; conv => whnf) | (refine BuildP.frz ⟨rfl, ?_⟩; conv => whnf) | (refine BoxP.row ?_; conv => whnf) | (refine And.intro Nat.zero_lt_one ?_; conv => whnf) | (refine And.intro (Nat.succ_pos _) ?_; conv => whnf) | fail
    refine ⟨⟨i + 1, hlt, fun j hj => (Nat.lt_or_eq_of_le (Nat.le_of_lt_succ hj)).elim (hia j) (fun e => e ▸ hx)⟩, (by show l.length - (i + 1) < l.length - i; omega), Sub.of_check [] ?_ (by repeat' first | exact Gen0.emp | exact Gen0.ofH rfl | refine Gen0.put ?_ (by decide) | refine Gen0.put0 ?_ ⟨_, rfl⟩)⟩
    conv => whnf
    (iterate 3 ((all_goals try (conv => whnf)); (repeat' first | exact True.intro | (refine And.intro ?_ ?_) | rfl | exact fun _ h => h | exact .inl rfl | exact none_some | exact .inr ⟨rfl, rfl, fun _ _ => rfl⟩ | exact .inr ⟨rfl, rfl, lt1 rfl⟩ | exact .inr ⟨rfl, rfl, lt2 rfl rfl⟩ | exact .inr ⟨rfl, rfl, lt3 rfl rfl rfl⟩ | fail)))
    all_goals first | exact leL_refl _ ha | exact leL_refl _ hb | exact wrap_succ hlt hR
/-- f.Name == name. -/
theorem field1_ok (f : ByteArray × GV) (s : ByteArray) : PSpec cxA 298 ([] ++ [.agg (fcells f)] ++ [.fptr 1 1 (fun _ => [.str s]) 0 0]) (.ret (.bool (decide (f.1 = s)))) := by
  refine PSpec.of_WC cxA_ok Tryz.func298 rfl Tryz.call298 (Nat.le_of_ble_eq_true rfl) (g := 1) ?_
  conv => whnf
  repeat' first | (refine RegP.enter ?_; conv => whnf) | (refine DrawP.range (by kernel_rfl) ?_; conv => whnf) | (refine BuildP.frz ⟨rfl, ?_⟩; conv => whnf) | (refine BoxP.row ?_; conv => whnf) | (refine And.intro Nat.zero_lt_one ?_; conv => whnf) | (refine And.intro (Nat.succ_pos _) ?_; conv => whnf) | fail
  refine Ent.of_check ?_ rfl
  conv => whnf
  (iterate 3 ((all_goals try (conv => whnf)); (repeat' first | exact True.intro | (refine And.intro ?_ ?_) | rfl | exact fun _ h => h | exact .inl rfl | exact none_some | exact .inr ⟨rfl, rfl, fun _ _ => rfl⟩ | exact .inr ⟨rfl, rfl, lt1 rfl⟩ | exact .inr ⟨rfl, rfl, lt2 rfl rfl⟩ | exact .inr ⟨rfl, rfl, lt3 rfl rfl rfl⟩ | fail)))
theorem findF_idx (s : ByteArray) : ∀ (d : List (ByteArray × GV)), (findF s d = none ∧ idxI (fun f => decide (f.1 = s)) d = -1) ∨ ∃ i, i < d.length ∧ idxI (fun f => decide (f.1 = s)) d = (i : Nat) ∧ findF s d = some (d.getD i default).2
  | [] => .inl ⟨rfl, rfl⟩
  | (m, g) :: d => by
    unfold findF idxI
    rw [List.findIdx?_cons]
    cases h : decide (m = s) with
    | true => exact .inr ⟨0, by simp, by simp, rfl⟩
    | false =>
      rcases findF_idx s d with ⟨h1, h2⟩ | ⟨i, h1, h2, h3⟩
      · left
        refine ⟨h1, ?_⟩
        unfold idxI at h2
        cases hx : d.findIdx? (fun f => decide (f.1 = s)) with
        | none => simp
        | some k => rw [hx] at h2; simp at h2; try omega
      · right
        refine ⟨i + 1, by simp; omega, ?_, h3⟩
        unfold idxI at h2
        cases hx : d.findIdx? (fun f => decide (f.1 = s)) with
        | none => rw [hx] at h2; simp at h2; try omega
        | some k => rw [hx] at h2; simp at h2 ⊢; try omega
def fieldOut : Option GV → List AV
  | some g => [.agg g.cells, .bool true]
  | none => [.agg gZero.cells, .bool false]
theorem field_ok (g : GV) (s : ByteArray) : PSpec cxA 274 [.agg g.cells, .str s] (.ret (.tup (fieldOut (g.get s)))) := by
  generalize hr : fieldOut (g.get s) = r
  refine PSpec.of_WC cxA_ok Tryz.func274 rfl Tryz.call274 (Nat.le_of_ble_eq_true rfl) (g := 1) ?_
  conv => whnf
  refine RegP.enter ?_
  conv => whnf
  refine BoxP.frz ⟨rfl, ?_⟩
  conv => whnf
  refine BoxP.frz ⟨rfl, ?_⟩
  conv => whnf
  repeat' first | (refine RegP.enter ?_; conv => whnf) | (refine DrawP.range (by kernel_rfl) ?_; conv => whnf) | (refine BuildP.frz ⟨rfl, ?_⟩; conv => whnf) | (refine BoxP.row ?_; conv => whnf) | (refine And.intro Nat.zero_lt_one ?_; conv => whnf) | (refine And.intro (Nat.succ_pos _) ?_; conv => whnf) | (refine call_same (indexFuncF_ok g.doc 298 [] [.fptr 1 1 (fun _ => [.str s]) 0 0] rfl rfl (fun f => decide (f.1 = s)) (fun f _ => field1_ok f s)) rfl ?_; conv => whnf) | fail
  cases h5 : (g.kind != 5)
  rotate_left
  · have : decide (g.kind = 5) = false := by simpa using h5
    unfold GV.get at hr
    simp only [this] at hr
    subst hr
    conv => whnf
    repeat' first | (refine RegP.enter ?_; conv => whnf) | (refine DrawP.range (by kernel_rfl) ?_; conv => whnf) | (refine BuildP.frz ⟨rfl, ?_⟩; conv => whnf) | (refine BoxP.row ?_; conv => whnf) | (refine And.intro Nat.zero_lt_one ?_; conv => whnf) | (refine And.intro (Nat.succ_pos _) ?_; conv => whnf) | fail
    refine Ent.of_check ?_ rfl
    conv => whnf
    (iterate 3 ((all_goals try (conv => whnf)); (repeat' first | exact True.intro | (refine And.intro ?_ ?_) | rfl | exact fun _ h => h | exact .inl rfl | exact none_some | exact .inr ⟨rfl, rfl, fun _ _ => rfl⟩ | exact .inr ⟨rfl, rfl, lt1 rfl⟩ | exact .inr ⟨rfl, rfl, lt2 rfl rfl⟩ | exact .inr ⟨rfl, rfl, lt3 rfl rfl rfl⟩ | fail)))
  have h5' : decide (g.kind = 5) = true := by simpa using h5
  unfold GV.get at hr
  simp only [h5'] at hr
  rcases findF_idx s g.doc with ⟨h1, h2⟩ | ⟨i, h1, h2, h3⟩
  · rw [h1] at hr
    subst hr
    rw [h2]
    conv => whnf
    repeat' first | (refine RegP.enter ?_; conv => whnf) | (refine DrawP.range (by kernel_rfl) ?_; conv => whnf) | (refine BuildP.frz ⟨rfl, ?_⟩; conv => whnf) | (refine BoxP.row ?_; conv => whnf) | (refine And.intro Nat.zero_lt_one ?_; conv => whnf) | (refine And.intro (Nat.succ_pos _) ?_; conv => whnf) | fail
    refine Ent.of_check ?_ rfl
    conv => whnf
    (iterate 3 ((all_goals try (conv => whnf)); (repeat' first | exact True.intro | (refine And.intro ?_ ?_) | rfl | exact fun _ h => h | exact .inl rfl | exact none_some | exact .inr ⟨rfl, rfl, fun _ _ => rfl⟩ | exact .inr ⟨rfl, rfl, lt1 rfl⟩ | exact .inr ⟨rfl, rfl, lt2 rfl rfl⟩ | exact .inr ⟨rfl, rfl, lt3 rfl rfl rfl⟩ | fail)))
  · rw [h3] at hr
    subst hr
    rw [h2]
    conv => whnf
    repeat' first | (refine RegP.enter ?_; conv => whnf) | (refine DrawP.range (by kernel_rfl) ?_; conv => whnf) | (refine BuildP.frz ⟨rfl, ?_⟩; conv => whnf) | (refine BoxP.row ?_; conv => whnf) | (refine And.intro Nat.zero_lt_one ?_; conv => whnf) | (refine And.intro (Nat.succ_pos _) ?_; conv => whnf) | fail
    refine And.intro (h1) ?_
    conv => whnf
    refine And.intro (h1) ?_
    conv => whnf
    repeat' first | (refine RegP.enter ?_; conv => whnf) | (refine DrawP.range (by kernel_rfl) ?_; conv => whnf) | (refine BuildP.frz ⟨rfl, ?_⟩; conv => whnf) | (refine BoxP.row ?_; conv => whnf) | (refine And.intro Nat.zero_lt_one ?_; conv => whnf) | (refine And.intro (Nat.succ_pos _) ?_; conv => whnf) | fail
    refine Ent.of_check ?_ rfl
    conv => whnf
    (iterate 3 ((all_goals try (conv => whnf)); (repeat' first | exact True.intro | (refine And.intro ?_ ?_) | rfl | exact fun _ h => h | exact .inl rfl | exact none_some | exact .inr ⟨rfl, rfl, fun _ _ => rfl⟩ | exact .inr ⟨rfl, rfl, lt1 rfl⟩ | exact .inr ⟨rfl, rfl, lt2 rfl rfl⟩ | exact .inr ⟨rfl, rfl, lt3 rfl rfl rfl⟩ | fail)))
end Go.Eng
namespace Go.Eng
open Go.Proofs
set_option maxRecDepth 10000
theorem pickF_eq (p : ByteArray) (rest : List ByteArray) : ∀ d, pickF p rest d = (match findF p d with | some x => pickM rest x | none => gZero)
  | [] => by simp [pickF, findF]
  | (n, g) :: d => by
    unfold pickF findF
    cases decide (n = p) with
    | true => rfl
    | false => exact pickF_eq p rest d
theorem pickL_drop {ps : List ByteArray} {l : List GV} {i : Nat} (h : i < l.length) : pickL ps (l.drop i) = (match (decide ((l.getD i default).kind = 5) || decide ((l.getD i default).kind = 6)) && !(decide ((pickM ps (l.getD i default)).kind = 0)) with | true => pickM ps (l.getD i default) :: pickL ps (l.drop (i + 1)) | false => pickL ps (l.drop (i + 1))) := by
  have e : l.getD i default = l[i] := by simp [h]
  rw [List.drop_eq_getElem_cons h, e, pickL]; rfl
theorem findF_size {p : ByteArray} {x : GV} : ∀ {d : List (ByteArray × GV)}, findF p d = some x → SizeOf.sizeOf x < SizeOf.sizeOf d
  | [], h => by simp [findF] at h
  | (n, g) :: d, h => by
    unfold findF at h
    cases hd : decide (n = p) with
    | true =>
      rw [hd] at h
      have h : some g = some x := h
      cases h
      simp
      omega
    | false =>
      rw [hd] at h
      have h : findF p d = some x := h
      have := findF_size h
      simp
      omega
theorem GV.get_size {g x : GV} {p : ByteArray} (h : g.get p = some x) : SizeOf.sizeOf x < SizeOf.sizeOf g := by
  obtain ⟨kind, int, text, list, doc⟩ := g
  unfold GV.get at h
  by_cases hk : kind = 5
  · have h : findF p doc = some x := by simpa [GV.kind, GV.doc, hk] using h
    have := findF_size h
    simp
    omega
  · simp [GV.kind, hk] at h
set_option maxHeartbeats 2000000 in
theorem pick_spec : ∀ (n : Nat) (g : GV), SizeOf.sizeOf g < n → ∀ ps : List ByteArray, PSpec cxA 379 [.agg g.cells, .lz (.gs ps)] (.ret (.agg (pickM ps g).cells)) := by
  intro n
  induction n with
  | zero => intro g h; exact absurd h (Nat.not_lt_zero _)
  | succ n ih =>
  intro g hg ps
  generalize hr : pickM ps g = r
  refine PSpec.of_WC cxA_ok Tryz.func379 rfl Tryz.call379 (Nat.le_of_ble_eq_true rfl) (g := 1) ?_
  conv => whnf
  refine RegP.enter ?_
  conv => whnf
  refine BoxP.frz ⟨rfl, ?_⟩
  conv => whnf
  repeat' first | (refine RegP.enter ?_; conv => whnf) | (refine DrawP.range (by kernel_rfl) ?_; conv => whnf) | (refine BuildP.frz ⟨rfl, ?_⟩; conv => whnf) | (refine BoxP.row ?_; conv => whnf) | (refine And.intro Nat.zero_lt_one ?_; conv => whnf) | (refine And.intro (Nat.succ_pos _) ?_; conv => whnf) | fail
  obtain ⟨kind, int, text, list, doc⟩ := g
  unfold pickM at hr
  cases h10 : decide (((ps.length : Nat) : Int) > 10)
  rotate_left
  · have : decide (10 < ps.length) = true := by simp at h10 ⊢; omega
    simp only [this] at hr
    subst hr
    conv => whnf
    repeat' first | (refine RegP.enter ?_; conv => whnf) | (refine DrawP.range (by kernel_rfl) ?_; conv => whnf) | (refine BuildP.frz ⟨rfl, ?_⟩; conv => whnf) | (refine BoxP.row ?_; conv => whnf) | (refine And.intro Nat.zero_lt_one ?_; conv => whnf) | (refine And.intro (Nat.succ_pos _) ?_; conv => whnf) | fail
    refine Ent.of_check ?_ rfl
    conv => whnf
    (iterate 3 ((all_goals try (conv => whnf)); (repeat' first | exact True.intro | (refine And.intro ?_ ?_) | rfl | exact fun _ h => h | exact .inl rfl | exact none_some | exact .inr ⟨rfl, rfl, fun _ _ => rfl⟩ | exact .inr ⟨rfl, rfl, lt1 rfl⟩ | exact .inr ⟨rfl, rfl, lt2 rfl rfl⟩ | exact .inr ⟨rfl, rfl, lt3 rfl rfl rfl⟩ | fail)))
  have h10' : decide (10 < ps.length) = false := by simp at h10 ⊢; omega
  simp only [h10'] at hr
  conv => whnf
  repeat' first | (refine RegP.enter ?_; conv => whnf) | (refine DrawP.range (by kernel_rfl) ?_; conv => whnf) | (refine BuildP.frz ⟨rfl, ?_⟩; conv => whnf) | (refine BoxP.row ?_; conv => whnf) | (refine And.intro Nat.zero_lt_one ?_; conv => whnf) | (refine And.intro (Nat.succ_pos _) ?_; conv => whnf) | fail
  cases ps with
  | nil =>
    replace hr : GV.mk kind int text list doc = r := hr
    conv => whnf
    repeat' first | (refine RegP.enter ?_; conv => whnf) | (refine DrawP.range (by kernel_rfl) ?_; conv => whnf) | (refine BuildP.frz ⟨rfl, ?_⟩; conv => whnf) | (refine BoxP.row ?_; conv => whnf) | (refine And.intro Nat.zero_lt_one ?_; conv => whnf) | (refine And.intro (Nat.succ_pos _) ?_; conv => whnf) | fail
    subst hr
    refine call_same (clone_ok _) rfl ?_
    conv => whnf
    repeat' first | (refine RegP.enter ?_; conv => whnf) | (refine DrawP.range (by kernel_rfl) ?_; conv => whnf) | (refine BuildP.frz ⟨rfl, ?_⟩; conv => whnf) | (refine BoxP.row ?_; conv => whnf) | (refine And.intro Nat.zero_lt_one ?_; conv => whnf) | (refine And.intro (Nat.succ_pos _) ?_; conv => whnf) | fail
    refine Ent.of_check ?_ rfl
    conv => whnf
    (iterate 3 ((all_goals try (conv => whnf)); (repeat' first | exact True.intro | (refine And.intro ?_ ?_) | rfl | exact fun _ h => h | exact .inl rfl | exact none_some | exact .inr ⟨rfl, rfl, fun _ _ => rfl⟩ | exact .inr ⟨rfl, rfl, lt1 rfl⟩ | exact .inr ⟨rfl, rfl, lt2 rfl rfl⟩ | exact .inr ⟨rfl, rfl, lt3 rfl rfl rfl⟩ | fail)))
  | cons p rest =>
  replace hr : (match decide (kind = 6) with | true => gList (pickL (p :: rest) list) | false => match decide (kind = 5) with | true => pickF p rest doc | false => gZero) = r := hr
  have h0 : ((((p :: rest).length : Nat) : Int) == 0) = false := by simp; omega
  rw [h0]
  conv => whnf
  repeat' first | (refine RegP.enter ?_; conv => whnf) | (refine DrawP.range (by kernel_rfl) ?_; conv => whnf) | (refine BuildP.frz ⟨rfl, ?_⟩; conv => whnf) | (refine BoxP.row ?_; conv => whnf) | (refine And.intro Nat.zero_lt_one ?_; conv => whnf) | (refine And.intro (Nat.succ_pos _) ?_; conv => whnf) | fail
  cases h6 : ((GV.mk kind int text list doc).kind != 6)
  rotate_left
  · have h6' : decide (kind = 6) = false := by simpa [GV.kind] using h6
    simp only [h6'] at hr
    have hr2 : (match (GV.mk kind int text list doc).get p with | some x => pickM rest x | none => gZero) = r := by
      rw [← hr]
      unfold GV.get
      by_cases hk : kind = 5
      · simp [GV.kind, GV.doc, hk, pickF_eq]
      · simp [GV.kind, GV.doc, hk]
    conv => whnf
    repeat' first | (refine RegP.enter ?_; conv => whnf) | (refine DrawP.range (by kernel_rfl) ?_; conv => whnf) | (refine BuildP.frz ⟨rfl, ?_⟩; conv => whnf) | (refine BoxP.row ?_; conv => whnf) | (refine And.intro Nat.zero_lt_one ?_; conv => whnf) | (refine And.intro (Nat.succ_pos _) ?_; conv => whnf) | (refine call_same (field_ok (GV.mk kind int text list doc) p) rfl ?_; conv => whnf) | fail
    cases hgt : (GV.mk kind int text list doc).get p with
    | none =>
      rw [hgt] at hr2
      subst hr2
      conv => whnf
      repeat' first | (refine RegP.enter ?_; conv => whnf) | (refine DrawP.range (by kernel_rfl) ?_; conv => whnf) | (refine BuildP.frz ⟨rfl, ?_⟩; conv => whnf) | (refine BoxP.row ?_; conv => whnf) | (refine And.intro Nat.zero_lt_one ?_; conv => whnf) | (refine And.intro (Nat.succ_pos _) ?_; conv => whnf) | fail
      refine Ent.of_check ?_ rfl
      conv => whnf
      (iterate 3 ((all_goals try (conv => whnf)); (repeat' first | exact True.intro | (refine And.intro ?_ ?_) | rfl | exact fun _ h => h | exact .inl rfl | exact none_some | exact .inr ⟨rfl, rfl, fun _ _ => rfl⟩ | exact .inr ⟨rfl, rfl, lt1 rfl⟩ | exact .inr ⟨rfl, rfl, lt2 rfl rfl⟩ | exact .inr ⟨rfl, rfl, lt3 rfl rfl rfl⟩ | fail)))
    | some x =>
      rw [hgt] at hr2
      have hx : SizeOf.sizeOf x < n := by
        have h1 := GV.get_size hgt
        omega
      subst hr2
      conv => whnf
      repeat' first | (refine RegP.enter ?_; conv => whnf) | (refine DrawP.range (by kernel_rfl) ?_; conv => whnf) | (refine BuildP.frz ⟨rfl, ?_⟩; conv => whnf) | (refine BoxP.row ?_; conv => whnf) | (refine And.intro Nat.zero_lt_one ?_; conv => whnf) | (refine And.intro (Nat.succ_pos _) ?_; conv => whnf) | fail
      refine call_le (ih x hx rest) ?_ (by rfl) (by rfl) ?_
      · (iterate 3 ((all_goals try (conv => whnf)); (repeat' first | exact True.intro | (refine And.intro ?_ ?_) | rfl | exact fun _ h => h | exact .inl rfl | exact none_some | exact .inr ⟨rfl, rfl, fun _ _ => rfl⟩ | exact .inr ⟨rfl, rfl, lt1 rfl⟩ | exact .inr ⟨rfl, rfl, lt2 rfl rfl⟩ | exact .inr ⟨rfl, rfl, lt3 rfl rfl rfl⟩ | fail)))
        all_goals exact .inr ⟨rfl, rfl, fun i _ => by show [AV.lit (Value.string ((p :: rest).getD (0 + 1 + i) default))] = _; rw [Nat.zero_add, Nat.add_comm 1 i]; rfl⟩
      conv => whnf
      repeat' first | (refine RegP.enter ?_; conv => whnf) | (refine DrawP.range (by kernel_rfl) ?_; conv => whnf) | (refine BuildP.frz ⟨rfl, ?_⟩; conv => whnf) | (refine BoxP.row ?_; conv => whnf) | (refine And.intro Nat.zero_lt_one ?_; conv => whnf) | (refine And.intro (Nat.succ_pos _) ?_; conv => whnf) | fail
      refine Ent.of_check ?_ rfl
      conv => whnf
      (iterate 3 ((all_goals try (conv => whnf)); (repeat' first | exact True.intro | (refine And.intro ?_ ?_) | rfl | exact fun _ h => h | exact .inl rfl | exact none_some | exact .inr ⟨rfl, rfl, fun _ _ => rfl⟩ | exact .inr ⟨rfl, rfl, lt1 rfl⟩ | exact .inr ⟨rfl, rfl, lt2 rfl rfl⟩ | exact .inr ⟨rfl, rfl, lt3 rfl rfl rfl⟩ | fail)))
  have h6' : decide (kind = 6) = true := by simpa [GV.kind] using h6
  simp only [h6'] at hr
  conv => whnf
  repeat' first | (refine RegP.enter ?_; conv => whnf) | (refine DrawP.range (by kernel_rfl) ?_; conv => whnf) | (refine BuildP.frz ⟨rfl, ?_⟩; conv => whnf) | (refine BoxP.row ?_; conv => whnf) | (refine And.intro Nat.zero_lt_one ?_; conv => whnf) | (refine And.intro (Nat.succ_pos _) ?_; conv => whnf) | fail
  refine ⟨2, {q : List GV × Nat // q.2 ≤ list.length ∧ q.1.length ≤ q.2 ∧ gList (q.1 ++ pickL (p :: rest) (list.drop q.2)) = r}, fun i => ([(1, .lz (.gs (p :: rest))), (4, .ptr (1,4,0) 0 0), (7, .ptr (1,7,0) 0 0), (43, .lz (.gl list)), (44, .int list.length), (45, .int i.1.2)], [((1,4,0), .cells 5 80 [[.int 0, .int 0, .str ⟨#[]⟩, .nil, .nil]]), ((1,7,0), .cells 5 80 [[.int 6, .int 0, .str ⟨#[]⟩, .row (2,0,0) 0 i.1.1.length none, .nil]]), ((2,0,0), .cells 5 80 (i.1.1.map GV.cells))]), fun i => list.length - i.1.2, ⟨⟨([], 0), Nat.zero_le _, Nat.le_refl _, hr⟩, Sub.of_check [((1,4,0), .old true (1,4,0)), ((1,7,0), .old true (1,7,0)), ((2,0,0), .new 5 80)] ?_ (by repeat' first | exact Gen0.emp | exact Gen0.ofH rfl | refine Gen0.put ?_ (by decide) | refine Gen0.put0 ?_ ⟨_, rfl⟩)⟩, fun ⟨⟨acc, i⟩, hi, hac, hia⟩ => ?_⟩
  · conv => whnf
    (iterate 3 ((all_goals try (conv => whnf)); (repeat' first | exact True.intro | (refine And.intro ?_ ?_) | rfl | exact fun _ h => h | exact .inl rfl | exact none_some | exact .inr ⟨rfl, rfl, fun _ _ => rfl⟩ | exact .inr ⟨rfl, rfl, lt1 rfl⟩ | exact .inr ⟨rfl, rfl, lt2 rfl rfl⟩ | exact .inr ⟨rfl, rfl, lt3 rfl rfl rfl⟩ | fail)))
  conv => whnf
  refine RegP.go fun hf => ?_
  conv => whnf
  refine br (fun hl => ?_) (fun hl => ?_)
  · have hlt : i < list.length := by simpa using hl
    have hRl := hf.lz 43 _ _ _ _ _ _ rfl rfl
    try rw [hl]
    conv => whnf
    refine RegP.enter ?_
    conv => whnf
    refine And.intro (hlt) ?_
    conv => whnf
    refine And.intro (hlt) ?_
    conv => whnf
    repeat' first | (refine RegP.enter ?_; conv => whnf) | (refine DrawP.range (by kernel_rfl) ?_; conv => whnf) | (refine BuildP.frz ⟨rfl, ?_⟩; conv => whnf) | (refine BoxP.row ?_; conv => whnf) | (refine And.intro Nat.zero_lt_one ?_; conv => whnf) | (refine And.intro (Nat.succ_pos _) ?_; conv => whnf) | fail
    have hsm := GV.sizeOf_list (k := kind) (n := int) (t := text) (d := doc) (show list.getD i default ∈ list by simp [hlt])
    rw [pickL_drop hlt] at hia
    have hac' : acc.length ≤ i := hac
    have hpick := ih (list.getD i default) (by omega) (p :: rest)
    generalize hx : list.getD i default = x at hia hpick
    cases h5 : x.kind == 5
    · have h5' : decide (x.kind = 5) = false := by simpa using h5
      conv => whnf
      repeat' first | (refine RegP.enter ?_; conv => whnf) | (refine DrawP.range (by kernel_rfl) ?_; conv => whnf) | (refine BuildP.frz ⟨rfl, ?_⟩; conv => whnf) | (refine BoxP.row ?_; conv => whnf) | (refine And.intro Nat.zero_lt_one ?_; conv => whnf) | (refine And.intro (Nat.succ_pos _) ?_; conv => whnf) | fail
      cases h6 : x.kind == 6
      · have h6' : decide (x.kind = 6) = false := by simpa using h6
        simp only [h5', h6', Bool.or_self, Bool.false_and] at hia
        conv => whnf
        repeat' first | (refine RegP.enter ?_; conv => whnf) | (refine DrawP.range (by kernel_rfl) ?_; conv => whnf) | (refine BuildP.frz ⟨rfl, ?_⟩; conv => whnf) | (refine BoxP.row ?_; conv => whnf) | (refine And.intro Nat.zero_lt_one ?_; conv => whnf) | (refine And.intro (Nat.succ_pos _) ?_; conv => whnf) | fail
        refine ⟨⟨(acc, i + 1), hlt, Nat.le_succ_of_le hac, hia⟩, (by show list.length - (i + 1) < list.length - i; omega), Sub.of_check [((1,4,0), .old true (1,4,0)), ((1,7,0), .old true (1,7,0)), ((2,0,0), .old false (2,0,0))] ?_ (by repeat' first | exact Gen0.emp | exact Gen0.ofH rfl | refine Gen0.put ?_ (by decide) | refine Gen0.put0 ?_ ⟨_, rfl⟩)⟩
        conv => whnf
        (iterate 3 ((all_goals try (conv => whnf)); (repeat' first | exact True.intro | (refine And.intro ?_ ?_) | rfl | exact fun _ h => h | exact .inl rfl | exact none_some | exact .inr ⟨rfl, rfl, fun _ _ => rfl⟩ | exact .inr ⟨rfl, rfl, lt1 rfl⟩ | exact .inr ⟨rfl, rfl, lt2 rfl rfl⟩ | exact .inr ⟨rfl, rfl, lt3 rfl rfl rfl⟩ | fail)))
        all_goals first | exact wrap_succ hlt (le_of_mul (k := 79) hRl) | exact idfL_map idfL_cells _ | exact snoc_map GV.cells _ _
      · have h6' : decide (x.kind = 6) = true := by simpa using h6
        simp only [h5', h6', Bool.or_true, Bool.true_and] at hia
        conv => whnf
        repeat' first | (refine RegP.enter ?_; conv => whnf) | (refine DrawP.range (by kernel_rfl) ?_; conv => whnf) | (refine BuildP.frz ⟨rfl, ?_⟩; conv => whnf) | (refine BoxP.row ?_; conv => whnf) | (refine And.intro Nat.zero_lt_one ?_; conv => whnf) | (refine And.intro (Nat.succ_pos _) ?_; conv => whnf) | fail
        refine call_same (hpick) rfl ?_
        conv => whnf
        repeat' first | (refine RegP.enter ?_; conv => whnf) | (refine DrawP.range (by kernel_rfl) ?_; conv => whnf) | (refine BuildP.frz ⟨rfl, ?_⟩; conv => whnf) | (refine BoxP.row ?_; conv => whnf) | (refine And.intro Nat.zero_lt_one ?_; conv => whnf) | (refine And.intro (Nat.succ_pos _) ?_; conv => whnf) | fail
        cases hk : ((pickM (p :: rest) x).kind != 0)
        · have hk' : decide ((pickM (p :: rest) x).kind = 0) = true := by simpa using hk
          simp only [hk', Bool.not_true] at hia
          conv => whnf
          repeat' first | (refine RegP.enter ?_; conv => whnf) | (refine DrawP.range (by kernel_rfl) ?_; conv => whnf) | (refine BuildP.frz ⟨rfl, ?_⟩; conv => whnf) | (refine BoxP.row ?_; conv => whnf) | (refine And.intro Nat.zero_lt_one ?_; conv => whnf) | (refine And.intro (Nat.succ_pos _) ?_; conv => whnf) | fail
          refine ⟨⟨(acc, i + 1), hlt, Nat.le_succ_of_le hac, hia⟩, (by show list.length - (i + 1) < list.length - i; omega), Sub.of_check [((1,4,0), .old true (1,4,0)), ((1,7,0), .old true (1,7,0)), ((2,0,0), .old false (2,0,0))] ?_ (by repeat' first | exact Gen0.emp | exact Gen0.ofH rfl | refine Gen0.put ?_ (by decide) | refine Gen0.put0 ?_ ⟨_, rfl⟩)⟩
          conv => whnf
          (iterate 3 ((all_goals try (conv => whnf)); (repeat' first | exact True.intro | (refine And.intro ?_ ?_) | rfl | exact fun _ h => h | exact .inl rfl | exact none_some | exact .inr ⟨rfl, rfl, fun _ _ => rfl⟩ | exact .inr ⟨rfl, rfl, lt1 rfl⟩ | exact .inr ⟨rfl, rfl, lt2 rfl rfl⟩ | exact .inr ⟨rfl, rfl, lt3 rfl rfl rfl⟩ | fail)))
          all_goals first | exact wrap_succ hlt (le_of_mul (k := 79) hRl) | exact idfL_map idfL_cells _ | exact snoc_map GV.cells _ _
        · have hk' : decide ((pickM (p :: rest) x).kind = 0) = false := by simpa using hk
          simp only [hk', Bool.not_false] at hia
          conv => whnf
          refine RegP.enter ?_
          conv => whnf
          refine BuildP.row ?_
          conv => whnf
          refine AppP.grow ⟨⟨by simp, Nat.le_trans (Nat.mul_le_mul_right _ (show acc.length + 1 ≤ list.length by omega)) hRl⟩, ?_⟩
          conv => whnf
          repeat' first | (refine RegP.enter ?_; conv => whnf) | (refine DrawP.range (by kernel_rfl) ?_; conv => whnf) | (refine BuildP.frz ⟨rfl, ?_⟩; conv => whnf) | (refine BoxP.row ?_; conv => whnf) | (refine And.intro Nat.zero_lt_one ?_; conv => whnf) | (refine And.intro (Nat.succ_pos _) ?_; conv => whnf) | fail
          refine ⟨⟨(acc ++ [pickM (p :: rest) x], i + 1), hlt, by simp; omega, by rw [List.append_assoc]; exact hia⟩, (by show list.length - (i + 1) < list.length - i; omega), Sub.of_check [((1,4,0), .old true (1,4,0)), ((1,7,0), .old true (1,7,0)), ((2,0,0), .old false (2,67,0))] ?_ (by repeat' first | exact Gen0.emp | exact Gen0.ofH rfl | refine Gen0.put ?_ (by decide) | refine Gen0.put0 ?_ ⟨_, rfl⟩)⟩
          conv => whnf
          (iterate 3 ((all_goals try (conv => whnf)); (repeat' first | exact True.intro | (refine And.intro ?_ ?_) | rfl | exact fun _ h => h | exact .inl rfl | exact none_some | exact .inr ⟨rfl, rfl, fun _ _ => rfl⟩ | exact .inr ⟨rfl, rfl, lt1 rfl⟩ | exact .inr ⟨rfl, rfl, lt2 rfl rfl⟩ | exact .inr ⟨rfl, rfl, lt3 rfl rfl rfl⟩ | fail)))
          all_goals first | exact wrap_succ hlt (le_of_mul (k := 79) hRl) | exact idfL_map idfL_cells _ | exact snoc_map GV.cells _ _ | (simp; done)
    · have h5' : decide (x.kind = 5) = true := by simpa using h5
      simp only [h5', Bool.true_or, Bool.true_and] at hia
      conv => whnf
      repeat' first | (refine RegP.enter ?_; conv => whnf) | (refine DrawP.range (by kernel_rfl) ?_; conv => whnf) | (refine BuildP.frz ⟨rfl, ?_⟩; conv => whnf) | (refine BoxP.row ?_; conv => whnf) | (refine And.intro Nat.zero_lt_one ?_; conv => whnf) | (refine And.intro (Nat.succ_pos _) ?_; conv => whnf) | fail
      refine call_same (hpick) rfl ?_
      conv => whnf
      repeat' first | (refine RegP.enter ?_; conv => whnf) | (refine DrawP.range (by kernel_rfl) ?_; conv => whnf) | (refine BuildP.frz ⟨rfl, ?_⟩; conv => whnf) | (refine BoxP.row ?_; conv => whnf) | (refine And.intro Nat.zero_lt_one ?_; conv => whnf) | (refine And.intro (Nat.succ_pos _) ?_; conv => whnf) | fail
      cases hk : ((pickM (p :: rest) x).kind != 0)
      · have hk' : decide ((pickM (p :: rest) x).kind = 0) = true := by simpa using hk
        simp only [hk', Bool.not_true] at hia
        conv => whnf
        repeat' first | (refine RegP.enter ?_; conv => whnf) | (refine DrawP.range (by kernel_rfl) ?_; conv => whnf) | (refine BuildP.frz ⟨rfl, ?_⟩; conv => whnf) | (refine BoxP.row ?_; conv => whnf) | (refine And.intro Nat.zero_lt_one ?_; conv => whnf) | (refine And.intro (Nat.succ_pos _) ?_; conv => whnf) | fail
        refine ⟨⟨(acc, i + 1), hlt, Nat.le_succ_of_le hac, hia⟩, (by show list.length - (i + 1) < list.length - i; omega), Sub.of_check [((1,4,0), .old true (1,4,0)), ((1,7,0), .old true (1,7,0)), ((2,0,0), .old false (2,0,0))] ?_ (by repeat' first | exact Gen0.emp | exact Gen0.ofH rfl | refine Gen0.put ?_ (by decide) | refine Gen0.put0 ?_ ⟨_, rfl⟩)⟩
        conv => whnf
        (iterate 3 ((all_goals try (conv => whnf)); (repeat' first | exact True.intro | (refine And.intro ?_ ?_) | rfl | exact fun _ h => h | exact .inl rfl | exact none_some | exact .inr ⟨rfl, rfl, fun _ _ => rfl⟩ | exact .inr ⟨rfl, rfl, lt1 rfl⟩ | exact .inr ⟨rfl, rfl, lt2 rfl rfl⟩ | exact .inr ⟨rfl, rfl, lt3 rfl rfl rfl⟩ | fail)))
        all_goals first | exact wrap_succ hlt (le_of_mul (k := 79) hRl) | exact idfL_map idfL_cells _ | exact snoc_map GV.cells _ _
      · have hk' : decide ((pickM (p :: rest) x).kind = 0) = false := by simpa using hk
        simp only [hk', Bool.not_false] at hia
        conv => whnf
        refine RegP.enter ?_
        conv => whnf
        refine BuildP.row ?_
        conv => whnf
        refine AppP.grow ⟨⟨by simp, Nat.le_trans (Nat.mul_le_mul_right _ (show acc.length + 1 ≤ list.length by omega)) hRl⟩, ?_⟩
        conv => whnf
        repeat' first | (refine RegP.enter ?_; conv => whnf) | (refine DrawP.range (by kernel_rfl) ?_; conv => whnf) | (refine BuildP.frz ⟨rfl, ?_⟩; conv => whnf) | (refine BoxP.row ?_; conv => whnf) | (refine And.intro Nat.zero_lt_one ?_; conv => whnf) | (refine And.intro (Nat.succ_pos _) ?_; conv => whnf) | fail
        refine ⟨⟨(acc ++ [pickM (p :: rest) x], i + 1), hlt, by simp; omega, by rw [List.append_assoc]; exact hia⟩, (by show list.length - (i + 1) < list.length - i; omega), Sub.of_check [((1,4,0), .old true (1,4,0)), ((1,7,0), .old true (1,7,0)), ((2,0,0), .old false (2,67,0))] ?_ (by repeat' first | exact Gen0.emp | exact Gen0.ofH rfl | refine Gen0.put ?_ (by decide) | refine Gen0.put0 ?_ ⟨_, rfl⟩)⟩
        conv => whnf
        (iterate 3 ((all_goals try (conv => whnf)); (repeat' first | exact True.intro | (refine And.intro ?_ ?_) | rfl | exact fun _ h => h | exact .inl rfl | exact none_some | exact .inr ⟨rfl, rfl, fun _ _ => rfl⟩ | exact .inr ⟨rfl, rfl, lt1 rfl⟩ | exact .inr ⟨rfl, rfl, lt2 rfl rfl⟩ | exact .inr ⟨rfl, rfl, lt3 rfl rfl rfl⟩ | fail)))
        all_goals first | exact wrap_succ hlt (le_of_mul (k := 79) hRl) | exact idfL_map idfL_cells _ | exact snoc_map GV.cells _ _ | (simp; done)
  have hge : i = list.length := by
    have : ¬ i < list.length := by simpa using hl
    omega
  subst hge
  try rw [hl]
  conv => whnf
  repeat' first | (refine RegP.enter ?_; conv => whnf) | (refine DrawP.range (by kernel_rfl) ?_; conv => whnf) | (refine BuildP.frz ⟨rfl, ?_⟩; conv => whnf) | (refine BoxP.row ?_; conv => whnf) | (refine And.intro Nat.zero_lt_one ?_; conv => whnf) | (refine And.intro (Nat.succ_pos _) ?_; conv => whnf) | fail
  have hia : gList acc = r := by
    rw [← hia]
    simp [pickL]
  subst hia
  refine Ent.of_check ?_ rfl
  conv => whnf
  (iterate 3 ((all_goals try (conv => whnf)); (repeat' first | exact True.intro | (refine And.intro ?_ ?_) | rfl | exact fun _ h => h | exact .inl rfl | exact none_some | exact .inr ⟨rfl, rfl, fun _ _ => rfl⟩ | exact .inr ⟨rfl, rfl, lt1 rfl⟩ | exact .inr ⟨rfl, rfl, lt2 rfl rfl⟩ | exact .inr ⟨rfl, rfl, lt3 rfl rfl rfl⟩ | fail)))
  all_goals first | (simp; done) | exact frz_all idfL_cells _
end Go.Eng
/- What work under way is, in memory; what the parts of work come to. -/
namespace Go.Eng
open Go.Proofs
def stopAV (e : Int) : AV := .ifc 187 (.agg [.int e])
def runRow (doc : GV) (k : Int) : Row := .cells 6 88 [[.int doc.kind, .int doc.int, .str doc.text, .lz (.gl doc.list), .lz (.gd doc.doc), .int k]]
/-- Names that are bound. -/
def scAV : List (ByteArray × GV) → AV
  | [] => .lit (.pointer none)
  | (n, v) :: up => .fptr 7 1 (fun _ => [.str n, .int v.kind, .int v.int, .str v.text, .lz (.gl v.list), .lz (.gd v.doc), scAV up]) 0 0
theorem idf_sc (s : List (ByteArray × GV)) : idf (scAV s) = true := by cases s <;> rfl
def RsSpec (f : FuncId) (args : List AV) (doc : GV) (k : Int) : Rs GV → Prop
  | .unk => True
  | .ok g k' => MSpec cxA f args [((0,0,0), runRow doc k)] (fun _ : Unit => .ret (.agg g.cells)) (fun _ => [((0,0,0), runRow doc k')])
  | .fail e k' => MSpec cxA f args [((0,0,0), runRow doc k)] (fun _ : Unit => .pan (stopAV e)) (fun _ => [((0,0,0), runRow doc k')])
/-- How many steps there may be. -/
def StepOk (k : Int) : Prop := 0 ≤ k ∧ k ≤ 20000
def RsBd {α : Type} (k0 : Int) : Rs α → Prop
  | .unk => True
  | .ok _ k => k0 ≤ k ∧ StepOk k
  | .fail _ k => StepOk k
theorem RsBd.mono {α : Type} {a b : Int} (h : a ≤ b) {r : Rs α} (hr : RsBd b r) : RsBd a r := by
  cases r with
  | unk => trivial
  | ok g k => exact ⟨Int.le_trans h hr.1, hr.2⟩
  | fail e k => exact hr
/-- A list under way. -/
def pileRow (n : Nat) (q : Id) (room : Int) : Row := .cells 6 88 [[.int 6, .int 0, .str ⟨#[]⟩, .row q 0 n none, .nil, .int room]]
def PL (l : List GV) (room : Int) : List (Id × Row) := [((0,0,0), pileRow l.length (0,1,0) room), ((0,1,0), .cells 5 80 (l.map GV.cells))]
end Go.Eng

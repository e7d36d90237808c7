/- Eng22: an engine for the program's code, and walks of its functions (Wv Ww Wx). -/
import Derived.Test.YtlcepambcoobgaaGreatDoorEng21
import Derived.Test.YtlcepambcoobgaaGreatDoorEng10
namespace Go.Eng
open Go.Proofs
set_option maxRecDepth 10000
theorem nan_ok (a : Int) : PSpec cxA 245 [.int a] (.ret (.bool false)) := by
  refine PSpec.of_WC cxA_ok Tryz.func245 rfl Tryz.call245 (Nat.le_of_ble_eq_true rfl) (g := 1) ?_
  conv => whnf
  repeat' ((first | refine RegP.enter ?_ | refine DrawP.range (by kernel_rfl) ?_ | refine BuildP.frz ⟨rfl, ?_⟩ | refine BoxP.row ?_ | refine And.intro (Nat.succ_pos _) ?_ | fail); conv => whnf)
  refine Ent.of_check ?_ rfl
  conv => whnf
  (iterate 3 ((all_goals try (conv => whnf)); (repeat' first | exact ⟨⟩ | refine And.intro ?_ ?_ | rfl | exact fun _ h => h | exact .inl rfl | exact none_some | exact .inr in4 | fail)))
  simp
theorem cmpInt_ok (a b : Int) : PSpec cxA 190 [.int a, .int b] (.ret (.int (cmpInt a b))) := by
  generalize hr : cmpInt a b = r
  unfold cmpInt at hr
  refine PSpec.of_WC cxA_ok Tryz.func190 rfl Tryz.call190 (Nat.le_of_ble_eq_true rfl) (g := 1) ?_
  conv => whnf
  repeat' ((first | refine RegP.enter ?_ | refine DrawP.range (by kernel_rfl) ?_ | refine BuildP.frz ⟨rfl, ?_⟩ | refine BoxP.row ?_ | refine And.intro (Nat.succ_pos _) ?_ | refine call_same (nan_ok a) rfl ?_ | refine call_same (nan_ok b) rfl ?_ | fail); conv => whnf)
  cases h : decide (a < b)
  · rw [h] at hr
    replace hr : (match decide (b < a) with | true => 1 | false => 0) = r := hr
    conv => whnf
    repeat' ((first | refine RegP.enter ?_ | refine DrawP.range (by kernel_rfl) ?_ | refine BuildP.frz ⟨rfl, ?_⟩ | refine BoxP.row ?_ | refine And.intro (Nat.succ_pos _) ?_ | fail); conv => whnf)
    cases h2 : decide (a > b)
    · rw [show decide (b < a) = false from h2] at hr
      replace hr : (0 : Int) = r := hr
      subst hr
      conv => whnf
      repeat' ((first | refine RegP.enter ?_ | refine DrawP.range (by kernel_rfl) ?_ | refine BuildP.frz ⟨rfl, ?_⟩ | refine BoxP.row ?_ | refine And.intro (Nat.succ_pos _) ?_ | fail); conv => whnf)
      refine Ent.of_check ?_ rfl
      conv => whnf
      (iterate 3 ((all_goals try (conv => whnf)); (repeat' first | exact ⟨⟩ | refine And.intro ?_ ?_ | rfl | exact fun _ h => h | exact .inl rfl | exact none_some | exact .inr in4 | fail)))
    · rw [show decide (b < a) = true from h2] at hr
      replace hr : (1 : Int) = r := hr
      subst hr
      conv => whnf
      repeat' ((first | refine RegP.enter ?_ | refine DrawP.range (by kernel_rfl) ?_ | refine BuildP.frz ⟨rfl, ?_⟩ | refine BoxP.row ?_ | refine And.intro (Nat.succ_pos _) ?_ | fail); conv => whnf)
      refine Ent.of_check ?_ rfl
      conv => whnf
      (iterate 3 ((all_goals try (conv => whnf)); (repeat' first | exact ⟨⟩ | refine And.intro ?_ ?_ | rfl | exact fun _ h => h | exact .inl rfl | exact none_some | exact .inr in4 | fail)))
  · rw [h] at hr
    replace hr : (-1 : Int) = r := hr
    subst hr
    conv => whnf
    repeat' ((first | refine RegP.enter ?_ | refine DrawP.range (by kernel_rfl) ?_ | refine BuildP.frz ⟨rfl, ?_⟩ | refine BoxP.row ?_ | refine And.intro (Nat.succ_pos _) ?_ | fail); conv => whnf)
    refine Ent.of_check ?_ rfl
    conv => whnf
    (iterate 3 ((all_goals try (conv => whnf)); (repeat' first | exact ⟨⟩ | refine And.intro ?_ ?_ | rfl | exact fun _ h => h | exact .inl rfl | exact none_some | exact .inr in4 | fail)))
theorem compare3_ok (a b : GV) (ha : a.kind = 3) (hb : b.kind = 3) : PSpec cxA 138 [.agg a.cells, .agg b.cells] (.ret (.int (cmpInt a.int b.int))) := by
  obtain ⟨ka, na, ta, la, da⟩ := a
  obtain ⟨kb, nb, tb, lb, db⟩ := b
  replace ha : ka = 3 := ha
  replace hb : kb = 3 := hb
  subst ha
  subst hb
  refine PSpec.of_WC cxA_ok Tryz.func138 rfl Tryz.call138 (Nat.le_of_ble_eq_true rfl) (g := 1) ?_
  conv => whnf
  repeat' ((first | refine RegP.enter ?_ | refine DrawP.range (by kernel_rfl) ?_ | refine BuildP.frz ⟨rfl, ?_⟩ | refine BoxP.row ?_ | refine And.intro (Nat.succ_pos _) ?_ | refine call_same (cmpInt_ok na nb) rfl ?_ | fail); conv => whnf)
  refine Ent.of_check ?_ rfl
  conv => whnf
  (iterate 3 ((all_goals try (conv => whnf)); (repeat' first | exact ⟨⟩ | refine And.intro ?_ ?_ | rfl | exact fun _ h => h | exact .inl rfl | exact none_some | exact .inr in4 | fail)))
theorem gt_ok (c : Int) : PSpec cxA 400 [.str oGt, .int c] (.ret (.agg (gBool (decide (c > 0))).cells)) := by
  refine PSpec.of_WC cxA_ok Tryz.func400 rfl Tryz.call400 (Nat.le_of_ble_eq_true rfl) (g := 1) ?_
  conv => whnf
  repeat' ((first | refine RegP.enter ?_ | refine DrawP.range (by kernel_rfl) ?_ | refine BuildP.frz ⟨rfl, ?_⟩ | refine BoxP.row ?_ | refine And.intro (Nat.succ_pos _) ?_ | refine call_same (gbool_ok (decide (c > 0))) rfl ?_ | fail); conv => whnf)
  refine Ent.of_check ?_ rfl
  conv => whnf
  (iterate 3 ((all_goals try (conv => whnf)); (repeat' first | exact ⟨⟩ | refine And.intro ?_ ?_ | rfl | exact fun _ h => h | exact .inl rfl | exact none_some | exact .inr in4 | fail)))
theorem full_int {g : GV} (h : g.kind = 3) : fullM g = g := by
  unfold fullM; rw [h]; rfl
theorem loose_gt (a b : GV) (ha : a.kind = 3) (hb : b.kind = 3) : PSpec cxA 393 [.str oGt, .lz (.gl [a, b])] (.ret (.tup [.agg (gBool (decide (b.int < a.int))).cells, .bool true])) := by
  have e : decide (b.int < a.int) = decide (cmpInt a.int b.int > 0) := by
    unfold cmpInt
    by_cases h1 : a.int < b.int
    · rw [decide_eq_true h1, decide_eq_false (by omega)]; rfl
    · rw [decide_eq_false h1]
      by_cases h2 : b.int < a.int
      · rw [decide_eq_true h2]; rfl
      · rw [decide_eq_false h2]; rfl
  rw [e]
  have fa := full_ok a
  have fb := full_ok b
  rw [full_int ha] at fa
  rw [full_int hb] at fb
  refine PSpec.of_WC cxA_ok Tryz.func393 rfl Tryz.call393 (Nat.le_of_ble_eq_true rfl) (g := 1) ?_
  conv => whnf
  refine RegP.enter ?_
  conv => whnf
  refine BoxP.frz ⟨rfl, ?_⟩
  conv => whnf
  repeat' ((first | refine RegP.enter ?_ | refine DrawP.range (by kernel_rfl) ?_ | refine BuildP.frz ⟨rfl, ?_⟩ | refine BoxP.row ?_ | refine And.intro (Nat.succ_pos _) ?_ | fail); conv => whnf)
  repeat' ((first | refine RegP.enter ?_ | refine DrawP.range (by kernel_rfl) ?_ | refine BuildP.frz ⟨rfl, ?_⟩ | refine BoxP.row ?_ | refine And.intro (Nat.succ_pos _) ?_ | refine call_same (fa) rfl ?_ | fail); conv => whnf)
  refine And.intro ((by decide : 1 < 2)) ?_
  conv => whnf
  refine And.intro ((by decide : 1 < 2)) ?_
  conv => whnf
  repeat' ((first | refine RegP.enter ?_ | refine DrawP.range (by kernel_rfl) ?_ | refine BuildP.frz ⟨rfl, ?_⟩ | refine BoxP.row ?_ | refine And.intro (Nat.succ_pos _) ?_ | refine call_same (fb) rfl ?_ | refine call_same (compare3_ok a b ha hb) rfl ?_ | refine call_same (gt_ok (cmpInt a.int b.int)) rfl ?_ | fail); conv => whnf)
  refine Ent.of_check ?_ rfl
  conv => whnf
  (iterate 3 ((all_goals try (conv => whnf)); (repeat' first | exact ⟨⟩ | refine And.intro ?_ ?_ | rfl | exact fun _ h => h | exact .inl rfl | exact none_some | exact .inr in4 | fail)))
def OutV (v : GV) : Out := .ret (.agg v.cells)
theorem nothing3 (x : GV) (h : x.kind = 3) : PSpec cxA 392 [.agg x.cells] (.ret (.bool false)) := by
  have hn := nothing_ok x
  rw [show nothingM x = false by unfold nothingM; rw [h]; rfl] at hn
  exact hn
theorem extreme_ok (v : GV) (l : List GV) (hl : allKind 3 (v :: l) = true) : PSpec cxA 398 [.lz (.gl (v :: l)), .int 1] (.ret (.agg (maxV v l).cells)) := by
  have h3 : ∀ i, i < (v :: l).length → ((v :: l).getD i default).kind = 3 := by
    intro i hi
    have e : (v :: l).getD i default = (v :: l)[i] := by simp [List.getD_eq_getElem?_getD, List.getElem?_eq_getElem hi]
    have := List.all_eq_true.1 hl ((v :: l).getD i default) (by rw [e]; exact List.getElem_mem hi)
    simpa using this
  generalize hm0 : maxV v l = m
  refine PSpec.of_WC cxA_ok Tryz.func398 rfl Tryz.call398 (Nat.le_of_ble_eq_true rfl) (g := 1) ?_
  conv => whnf
  repeat' ((first | refine RegP.enter ?_ | refine DrawP.range (by kernel_rfl) ?_ | refine BuildP.frz ⟨rfl, ?_⟩ | refine BoxP.row ?_ | refine And.intro (Nat.succ_pos _) ?_ | fail); conv => whnf)
  cases h1 : ((((v :: l).length : Nat) : Int) == 1)
  · conv => whnf
    repeat' ((first | refine RegP.enter ?_ | refine DrawP.range (by kernel_rfl) ?_ | refine BuildP.frz ⟨rfl, ?_⟩ | refine BoxP.row ?_ | refine And.intro (Nat.succ_pos _) ?_ | fail); conv => whnf)
    refine ⟨2, {q : Option (GV × Nat) // ∀ b i, q = some (b, i) → i ≤ (v :: l).length ∧ b.kind = 3 ∧ maxV b ((v :: l).drop i) = m}, fun i => ([(1, .int 1), (4, .ptr (1,4,0) 0 0), (5, .ptr (1,5,0) 0 0), (23, .lz (.gl (v :: l))), (24, .int (v :: l).length), (25, .int (i.1.getD (gNull, 0)).2)], [((1,4,0), .cells 5 80 [[.int 0, .int 0, .str ⟨#[]⟩, .nil, .nil]]), ((1,5,0), .cells 5 80 [(i.1.getD (gNull, 0)).1.cells])]), fun i => (v :: l).length - (i.1.getD (gNull, 0)).2, ⟨⟨none, fun _ _ h => by cases h⟩, Sub.of_check [((1,4,0), .old true (1,4,0)), ((1,5,0), .old true (1,5,0))] ?_ (by repeat' first | exact Gen0.emp | exact Gen0.ofH rfl | refine Gen0.put ?_ (by decide) | refine Gen0.put0 ?_ ⟨_, rfl⟩)⟩, fun ⟨o, ho⟩ => ?_⟩
    · conv => whnf
      (iterate 3 ((all_goals try (conv => whnf)); (repeat' first | exact ⟨⟩ | refine And.intro ?_ ?_ | rfl | exact fun _ h => h | exact .inl rfl | exact none_some | exact .inr in4 | fail)))
    conv => whnf
    rcases o with _ | ⟨b, i⟩
    · repeat' ((first | refine RegP.enter ?_ | refine DrawP.range (by kernel_rfl) ?_ | refine BuildP.frz ⟨rfl, ?_⟩ | refine BoxP.row ?_ | refine And.intro (Nat.succ_pos _) ?_ | fail); conv => whnf)
      have hlt : decide (((0 : Nat) : Int) < (((v :: l).length : Nat) : Int)) = true := decide_eq_true (by simp)
      refine br (fun hlt' => ?_) (fun hlt' => ?_)
      rotate_left
      · exact absurd (hlt.symm.trans hlt') (by decide)
      try rw [hlt']
      conv => whnf
      repeat' ((first | refine RegP.enter ?_ | refine DrawP.range (by kernel_rfl) ?_ | refine BuildP.frz ⟨rfl, ?_⟩ | refine BoxP.row ?_ | refine And.intro (Nat.succ_pos _) ?_ | refine call_same (nothing3 v (h3 0 (by simp))) rfl ?_ | fail); conv => whnf)
      refine ⟨⟨some (v, 1), fun b i h => by cases h; exact ⟨by simp, h3 0 (by simp), hm0⟩⟩, (by show (v :: l).length - 1 < (v :: l).length - 0; simp), Sub.of_check [((1,4,0), .old true (1,4,0)), ((1,5,0), .old true (1,5,0))] ?_ (by repeat' first | exact Gen0.emp | exact Gen0.ofH rfl | refine Gen0.put ?_ (by decide) | refine Gen0.put0 ?_ ⟨_, rfl⟩)⟩
      conv => whnf
      (iterate 3 ((all_goals try (conv => whnf)); (repeat' first | exact ⟨⟩ | refine And.intro ?_ ?_ | rfl | exact fun _ h => h | exact .inl rfl | exact none_some | exact .inr in4 | fail)))
      all_goals trace_state
    · obtain ⟨hi, hb, hm⟩ := ho b i rfl
      refine RegP.go fun hf => ?_
      conv => whnf
      refine br (fun hlt => ?_) (fun hlt => ?_)
      · have hlt' : i < (v :: l).length := Int.ofNat_lt.1 (of_decide_eq_true hlt)
        have hRl := hf.lz 23 _ _ _ _ _ _ rfl rfl
        try rw [hlt]
        conv => whnf
        repeat' ((first | refine RegP.enter ?_ | refine DrawP.range (by kernel_rfl) ?_ | refine BuildP.frz ⟨rfl, ?_⟩ | refine BoxP.row ?_ | refine And.intro (Nat.succ_pos _) ?_ | fail); conv => whnf)
        refine And.intro (hlt') ?_
        conv => whnf
        refine And.intro (hlt') ?_
        conv => whnf
        have hx3 := h3 i hlt'
        repeat' ((first | refine RegP.enter ?_ | refine DrawP.range (by kernel_rfl) ?_ | refine BuildP.frz ⟨rfl, ?_⟩ | refine BoxP.row ?_ | refine And.intro (Nat.succ_pos _) ?_ | refine call_same (nothing3 ((v :: l).getD i default) hx3) rfl ?_ | fail); conv => whnf)
        refine br (fun hk => ?_) (fun hk => ?_)
        · exact absurd (show (b.kind == 2) = true from hk) (by rw [hb]; decide)
        try rw [hk]
        conv => whnf
        repeat' ((first | refine RegP.enter ?_ | refine DrawP.range (by kernel_rfl) ?_ | refine BuildP.frz ⟨rfl, ?_⟩ | refine BoxP.row ?_ | refine And.intro (Nat.succ_pos _) ?_ | refine call_same (compare3_ok ((v :: l).getD i default) b hx3 hb) rfl ?_ | fail); conv => whnf)
        have hd : (v :: l).drop i = (v :: l).getD i default :: (v :: l).drop (i + 1) := by
          rw [List.drop_eq_getElem_cons hlt']; simp [List.getD_eq_getElem?_getD, List.getElem?_eq_getElem hlt']
        rw [hd] at hm
        replace hm : maxV (match decide (b.int < ((v :: l).getD i default).int) with | true => (v :: l).getD i default | false => b) ((v :: l).drop (i + 1)) = m := hm
        have hc : (cmpInt ((v :: l).getD i default).int b.int == 1) = decide (b.int < ((v :: l).getD i default).int) := by
          unfold cmpInt
          by_cases h1 : ((v :: l).getD i default).int < b.int
          · rw [decide_eq_true h1, decide_eq_false (by omega)]; rfl
          · rw [decide_eq_false h1]
            by_cases h2 : b.int < ((v :: l).getD i default).int
            · rw [decide_eq_true h2]; rfl
            · rw [decide_eq_false h2]; rfl
        refine br (fun hg => ?_) (fun hg => ?_)
        · rw [hc.symm.trans hg] at hm
          try rw [hg]
          conv => whnf
          repeat' ((first | refine RegP.enter ?_ | refine DrawP.range (by kernel_rfl) ?_ | refine BuildP.frz ⟨rfl, ?_⟩ | refine BoxP.row ?_ | refine And.intro (Nat.succ_pos _) ?_ | fail); conv => whnf)
          refine ⟨⟨some ((v :: l).getD i default, i + 1), fun b' i' h => by cases h; exact ⟨hlt', hx3, hm⟩⟩, (by show (v :: l).length - (i + 1) < (v :: l).length - i; omega), Sub.of_check [((1,4,0), .old true (1,4,0)), ((1,5,0), .old true (1,5,0))] ?_ (by repeat' first | exact Gen0.emp | exact Gen0.ofH rfl | refine Gen0.put ?_ (by decide) | refine Gen0.put0 ?_ ⟨_, rfl⟩)⟩
          conv => whnf
          (iterate 3 ((all_goals try (conv => whnf)); (repeat' first | exact ⟨⟩ | refine And.intro ?_ ?_ | rfl | exact fun _ h => h | exact .inl rfl | exact none_some | exact .inr in4 | fail)))
          all_goals exact wrap_succ hlt' (le_of_mul (k := 79) hRl)
        · rw [hc.symm.trans hg] at hm
          try rw [hg]
          conv => whnf
          repeat' ((first | refine RegP.enter ?_ | refine DrawP.range (by kernel_rfl) ?_ | refine BuildP.frz ⟨rfl, ?_⟩ | refine BoxP.row ?_ | refine And.intro (Nat.succ_pos _) ?_ | fail); conv => whnf)
          refine ⟨⟨some (b, i + 1), fun b' i' h => by cases h; exact ⟨hlt', hb, hm⟩⟩, (by show (v :: l).length - (i + 1) < (v :: l).length - i; omega), Sub.of_check [((1,4,0), .old true (1,4,0)), ((1,5,0), .old true (1,5,0))] ?_ (by repeat' first | exact Gen0.emp | exact Gen0.ofH rfl | refine Gen0.put ?_ (by decide) | refine Gen0.put0 ?_ ⟨_, rfl⟩)⟩
          conv => whnf
          (iterate 3 ((all_goals try (conv => whnf)); (repeat' first | exact ⟨⟩ | refine And.intro ?_ ?_ | rfl | exact fun _ h => h | exact .inl rfl | exact none_some | exact .inr in4 | fail)))
          all_goals exact wrap_succ hlt' (le_of_mul (k := 79) hRl)
      have hge : i = (v :: l).length := by
        have h' : ¬ ((i : Int) < (((v :: l).length : Nat) : Int)) := of_decide_eq_false hlt
        omega
      have hm : b = m := by
        rw [← hm, hge, List.drop_length]; rfl
      try rw [hlt]
      conv => whnf
      repeat' ((first | refine RegP.enter ?_ | refine DrawP.range (by kernel_rfl) ?_ | refine BuildP.frz ⟨rfl, ?_⟩ | refine BoxP.row ?_ | refine And.intro (Nat.succ_pos _) ?_ | fail); conv => whnf)
      subst hm
      refine Ent.of_check ?_ rfl
      conv => whnf
      (iterate 3 ((all_goals try (conv => whnf)); (repeat' first | exact ⟨⟩ | refine And.intro ?_ ?_ | rfl | exact fun _ h => h | exact .inl rfl | exact none_some | exact .inr in4 | fail)))
  · have hk6 : (v.kind == 6) = false := by rw [show v.kind = 3 from h3 0 (by simp)]; rfl
    conv => whnf
    repeat' ((first | refine RegP.enter ?_ | refine DrawP.range (by kernel_rfl) ?_ | refine BuildP.frz ⟨rfl, ?_⟩ | refine BoxP.row ?_ | refine And.intro (Nat.succ_pos _) ?_ | fail); conv => whnf)
    refine br (fun hk => ?_) (fun hk => ?_)
    · exact absurd (hk6.symm.trans hk) (by decide)
    try rw [hk]
    conv => whnf
    repeat' ((first | refine RegP.enter ?_ | refine DrawP.range (by kernel_rfl) ?_ | refine BuildP.frz ⟨rfl, ?_⟩ | refine BoxP.row ?_ | refine And.intro (Nat.succ_pos _) ?_ | fail); conv => whnf)
    refine ⟨2, {q : Option (GV × Nat) // ∀ b i, q = some (b, i) → i ≤ (v :: l).length ∧ b.kind = 3 ∧ maxV b ((v :: l).drop i) = m}, fun i => ([(1, .int 1), (4, .ptr (1,4,0) 0 0), (5, .ptr (1,5,0) 0 0), (23, .lz (.gl (v :: l))), (24, .int (v :: l).length), (25, .int (i.1.getD (gNull, 0)).2)], [((1,4,0), .cells 5 80 [[.int 0, .int 0, .str ⟨#[]⟩, .nil, .nil]]), ((1,5,0), .cells 5 80 [(i.1.getD (gNull, 0)).1.cells])]), fun i => (v :: l).length - (i.1.getD (gNull, 0)).2, ⟨⟨none, fun _ _ h => by cases h⟩, Sub.of_check [((1,4,0), .old true (1,4,0)), ((1,5,0), .old true (1,5,0))] ?_ (by repeat' first | exact Gen0.emp | exact Gen0.ofH rfl | refine Gen0.put ?_ (by decide) | refine Gen0.put0 ?_ ⟨_, rfl⟩)⟩, fun ⟨o, ho⟩ => ?_⟩
    · conv => whnf
      (iterate 3 ((all_goals try (conv => whnf)); (repeat' first | exact ⟨⟩ | refine And.intro ?_ ?_ | rfl | exact fun _ h => h | exact .inl rfl | exact none_some | exact .inr in4 | fail)))
    conv => whnf
    rcases o with _ | ⟨b, i⟩
    · repeat' ((first | refine RegP.enter ?_ | refine DrawP.range (by kernel_rfl) ?_ | refine BuildP.frz ⟨rfl, ?_⟩ | refine BoxP.row ?_ | refine And.intro (Nat.succ_pos _) ?_ | fail); conv => whnf)
      have hlt : decide (((0 : Nat) : Int) < (((v :: l).length : Nat) : Int)) = true := decide_eq_true (by simp)
      refine br (fun hlt' => ?_) (fun hlt' => ?_)
      rotate_left
      · exact absurd (hlt.symm.trans hlt') (by decide)
      try rw [hlt']
      conv => whnf
      repeat' ((first | refine RegP.enter ?_ | refine DrawP.range (by kernel_rfl) ?_ | refine BuildP.frz ⟨rfl, ?_⟩ | refine BoxP.row ?_ | refine And.intro (Nat.succ_pos _) ?_ | refine call_same (nothing3 v (h3 0 (by simp))) rfl ?_ | fail); conv => whnf)
      refine ⟨⟨some (v, 1), fun b i h => by cases h; exact ⟨by simp, h3 0 (by simp), hm0⟩⟩, (by show (v :: l).length - 1 < (v :: l).length - 0; simp), Sub.of_check [((1,4,0), .old true (1,4,0)), ((1,5,0), .old true (1,5,0))] ?_ (by repeat' first | exact Gen0.emp | exact Gen0.ofH rfl | refine Gen0.put ?_ (by decide) | refine Gen0.put0 ?_ ⟨_, rfl⟩)⟩
      conv => whnf
      (iterate 3 ((all_goals try (conv => whnf)); (repeat' first | exact ⟨⟩ | refine And.intro ?_ ?_ | rfl | exact fun _ h => h | exact .inl rfl | exact none_some | exact .inr in4 | fail)))
      all_goals trace_state
    · obtain ⟨hi, hb, hm⟩ := ho b i rfl
      refine RegP.go fun hf => ?_
      conv => whnf
      refine br (fun hlt => ?_) (fun hlt => ?_)
      · have hlt' : i < (v :: l).length := Int.ofNat_lt.1 (of_decide_eq_true hlt)
        have hRl := hf.lz 23 _ _ _ _ _ _ rfl rfl
        try rw [hlt]
        conv => whnf
        repeat' ((first | refine RegP.enter ?_ | refine DrawP.range (by kernel_rfl) ?_ | refine BuildP.frz ⟨rfl, ?_⟩ | refine BoxP.row ?_ | refine And.intro (Nat.succ_pos _) ?_ | fail); conv => whnf)
        refine And.intro (hlt') ?_
        conv => whnf
        refine And.intro (hlt') ?_
        conv => whnf
        have hx3 := h3 i hlt'
        repeat' ((first | refine RegP.enter ?_ | refine DrawP.range (by kernel_rfl) ?_ | refine BuildP.frz ⟨rfl, ?_⟩ | refine BoxP.row ?_ | refine And.intro (Nat.succ_pos _) ?_ | refine call_same (nothing3 ((v :: l).getD i default) hx3) rfl ?_ | fail); conv => whnf)
        refine br (fun hk => ?_) (fun hk => ?_)
        · exact absurd (show (b.kind == 2) = true from hk) (by rw [hb]; decide)
        try rw [hk]
        conv => whnf
        repeat' ((first | refine RegP.enter ?_ | refine DrawP.range (by kernel_rfl) ?_ | refine BuildP.frz ⟨rfl, ?_⟩ | refine BoxP.row ?_ | refine And.intro (Nat.succ_pos _) ?_ | refine call_same (compare3_ok ((v :: l).getD i default) b hx3 hb) rfl ?_ | fail); conv => whnf)
        have hd : (v :: l).drop i = (v :: l).getD i default :: (v :: l).drop (i + 1) := by
          rw [List.drop_eq_getElem_cons hlt']; simp [List.getD_eq_getElem?_getD, List.getElem?_eq_getElem hlt']
        rw [hd] at hm
        replace hm : maxV (match decide (b.int < ((v :: l).getD i default).int) with | true => (v :: l).getD i default | false => b) ((v :: l).drop (i + 1)) = m := hm
        have hc : (cmpInt ((v :: l).getD i default).int b.int == 1) = decide (b.int < ((v :: l).getD i default).int) := by
          unfold cmpInt
          by_cases h1 : ((v :: l).getD i default).int < b.int
          · rw [decide_eq_true h1, decide_eq_false (by omega)]; rfl
          · rw [decide_eq_false h1]
            by_cases h2 : b.int < ((v :: l).getD i default).int
            · rw [decide_eq_true h2]; rfl
            · rw [decide_eq_false h2]; rfl
        refine br (fun hg => ?_) (fun hg => ?_)
        · rw [hc.symm.trans hg] at hm
          try rw [hg]
          conv => whnf
          repeat' ((first | refine RegP.enter ?_ | refine DrawP.range (by kernel_rfl) ?_ | refine BuildP.frz ⟨rfl, ?_⟩ | refine BoxP.row ?_ | refine And.intro (Nat.succ_pos _) ?_ | fail); conv => whnf)
          refine ⟨⟨some ((v :: l).getD i default, i + 1), fun b' i' h => by cases h; exact ⟨hlt', hx3, hm⟩⟩, (by show (v :: l).length - (i + 1) < (v :: l).length - i; omega), Sub.of_check [((1,4,0), .old true (1,4,0)), ((1,5,0), .old true (1,5,0))] ?_ (by repeat' first | exact Gen0.emp | exact Gen0.ofH rfl | refine Gen0.put ?_ (by decide) | refine Gen0.put0 ?_ ⟨_, rfl⟩)⟩
          conv => whnf
          (iterate 3 ((all_goals try (conv => whnf)); (repeat' first | exact ⟨⟩ | refine And.intro ?_ ?_ | rfl | exact fun _ h => h | exact .inl rfl | exact none_some | exact .inr in4 | fail)))
          all_goals exact wrap_succ hlt' (le_of_mul (k := 79) hRl)
        · rw [hc.symm.trans hg] at hm
          try rw [hg]
          conv => whnf
          repeat' ((first | refine RegP.enter ?_ | refine DrawP.range (by kernel_rfl) ?_ | refine BuildP.frz ⟨rfl, ?_⟩ | refine BoxP.row ?_ | refine And.intro (Nat.succ_pos _) ?_ | fail); conv => whnf)
          refine ⟨⟨some (b, i + 1), fun b' i' h => by cases h; exact ⟨hlt', hb, hm⟩⟩, (by show (v :: l).length - (i + 1) < (v :: l).length - i; omega), Sub.of_check [((1,4,0), .old true (1,4,0)), ((1,5,0), .old true (1,5,0))] ?_ (by repeat' first | exact Gen0.emp | exact Gen0.ofH rfl | refine Gen0.put ?_ (by decide) | refine Gen0.put0 ?_ ⟨_, rfl⟩)⟩
          conv => whnf
          (iterate 3 ((all_goals try (conv => whnf)); (repeat' first | exact ⟨⟩ | refine And.intro ?_ ?_ | rfl | exact fun _ h => h | exact .inl rfl | exact none_some | exact .inr in4 | fail)))
          all_goals exact wrap_succ hlt' (le_of_mul (k := 79) hRl)
      have hge : i = (v :: l).length := by
        have h' : ¬ ((i : Int) < (((v :: l).length : Nat) : Int)) := of_decide_eq_false hlt
        omega
      have hm : b = m := by
        rw [← hm, hge, List.drop_length]; rfl
      try rw [hlt]
      conv => whnf
      repeat' ((first | refine RegP.enter ?_ | refine DrawP.range (by kernel_rfl) ?_ | refine BuildP.frz ⟨rfl, ?_⟩ | refine BoxP.row ?_ | refine And.intro (Nat.succ_pos _) ?_ | fail); conv => whnf)
      subst hm
      refine Ent.of_check ?_ rfl
      conv => whnf
      (iterate 3 ((all_goals try (conv => whnf)); (repeat' first | exact ⟨⟩ | refine And.intro ?_ ?_ | rfl | exact fun _ h => h | exact .inl rfl | exact none_some | exact .inr in4 | fail)))
theorem loose_max (v : GV) (l : List GV) (hl : allKind 3 (v :: l) = true) : PSpec cxA 393 [.str oMax, .lz (.gl (v :: l))] (.ret (.tup [.agg (maxV v l).cells, .bool true])) := by
  have hx := extreme_ok v l hl
  generalize maxV v l = m at *
  refine PSpec.of_WC cxA_ok Tryz.func393 rfl Tryz.call393 (Nat.le_of_ble_eq_true rfl) (g := 1) ?_
  conv => whnf
  refine RegP.enter ?_
  conv => whnf
  refine BoxP.frz ⟨rfl, ?_⟩
  conv => whnf
  repeat' ((first | refine RegP.enter ?_ | refine DrawP.range (by kernel_rfl) ?_ | refine BuildP.frz ⟨rfl, ?_⟩ | refine BoxP.row ?_ | refine And.intro (Nat.succ_pos _) ?_ | refine call_same (hx) rfl ?_ | fail); conv => whnf)
  refine Ent.of_check ?_ rfl
  conv => whnf
  (iterate 3 ((all_goals try (conv => whnf)); (repeat' first | exact ⟨⟩ | refine And.intro ?_ ?_ | rfl | exact fun _ h => h | exact .inl rfl | exact none_some | exact .inr in4 | fail)))
theorem loose_oAdd (l : List GV) : PSpec cxA 393 [.str oAdd, .lz (.gl l)] (.ret (.tup [.agg gZero.cells, .bool false])) := by
  refine PSpec.of_WC cxA_ok Tryz.func393 rfl Tryz.call393 (Nat.le_of_ble_eq_true rfl) (g := 1) ?_
  conv => whnf
  refine RegP.enter ?_
  conv => whnf
  refine BoxP.frz ⟨rfl, ?_⟩
  conv => whnf
  repeat' ((first | refine RegP.enter ?_ | refine DrawP.range (by kernel_rfl) ?_ | refine BuildP.frz ⟨rfl, ?_⟩ | refine BoxP.row ?_ | refine And.intro (Nat.succ_pos _) ?_ | fail); conv => whnf)
  refine Ent.of_check ?_ rfl
  conv => whnf
  (iterate 3 ((all_goals try (conv => whnf)); (repeat' first | exact ⟨⟩ | refine And.intro ?_ ?_ | rfl | exact fun _ h => h | exact .inl rfl | exact none_some | exact .inr in4 | fail)))
theorem loose_oSubtract (l : List GV) : PSpec cxA 393 [.str oSubtract, .lz (.gl l)] (.ret (.tup [.agg gZero.cells, .bool false])) := by
  refine PSpec.of_WC cxA_ok Tryz.func393 rfl Tryz.call393 (Nat.le_of_ble_eq_true rfl) (g := 1) ?_
  conv => whnf
  refine RegP.enter ?_
  conv => whnf
  refine BoxP.frz ⟨rfl, ?_⟩
  conv => whnf
  repeat' ((first | refine RegP.enter ?_ | refine DrawP.range (by kernel_rfl) ?_ | refine BuildP.frz ⟨rfl, ?_⟩ | refine BoxP.row ?_ | refine And.intro (Nat.succ_pos _) ?_ | fail); conv => whnf)
  refine Ent.of_check ?_ rfl
  conv => whnf
  (iterate 3 ((all_goals try (conv => whnf)); (repeat' first | exact ⟨⟩ | refine And.intro ?_ ?_ | rfl | exact fun _ h => h | exact .inl rfl | exact none_some | exact .inr in4 | fail)))
theorem loose_oMultiply (l : List GV) : PSpec cxA 393 [.str oMultiply, .lz (.gl l)] (.ret (.tup [.agg gZero.cells, .bool false])) := by
  refine PSpec.of_WC cxA_ok Tryz.func393 rfl Tryz.call393 (Nat.le_of_ble_eq_true rfl) (g := 1) ?_
  conv => whnf
  refine RegP.enter ?_
  conv => whnf
  refine BoxP.frz ⟨rfl, ?_⟩
  conv => whnf
  repeat' ((first | refine RegP.enter ?_ | refine DrawP.range (by kernel_rfl) ?_ | refine BuildP.frz ⟨rfl, ?_⟩ | refine BoxP.row ?_ | refine And.intro (Nat.succ_pos _) ?_ | fail); conv => whnf)
  refine Ent.of_check ?_ rfl
  conv => whnf
  (iterate 3 ((all_goals try (conv => whnf)); (repeat' first | exact ⟨⟩ | refine And.intro ?_ ?_ | rfl | exact fun _ h => h | exact .inl rfl | exact none_some | exact .inr in4 | fail)))
theorem loose_oDivide (l : List GV) : PSpec cxA 393 [.str oDivide, .lz (.gl l)] (.ret (.tup [.agg gZero.cells, .bool false])) := by
  refine PSpec.of_WC cxA_ok Tryz.func393 rfl Tryz.call393 (Nat.le_of_ble_eq_true rfl) (g := 1) ?_
  conv => whnf
  refine RegP.enter ?_
  conv => whnf
  refine BoxP.frz ⟨rfl, ?_⟩
  conv => whnf
  repeat' ((first | refine RegP.enter ?_ | refine DrawP.range (by kernel_rfl) ?_ | refine BuildP.frz ⟨rfl, ?_⟩ | refine BoxP.row ?_ | refine And.intro (Nat.succ_pos _) ?_ | fail); conv => whnf)
  refine Ent.of_check ?_ rfl
  conv => whnf
  (iterate 3 ((all_goals try (conv => whnf)); (repeat' first | exact ⟨⟩ | refine And.intro ?_ ?_ | rfl | exact fun _ h => h | exact .inl rfl | exact none_some | exact .inr in4 | fail)))
theorem loose_oMod (l : List GV) : PSpec cxA 393 [.str oMod, .lz (.gl l)] (.ret (.tup [.agg gZero.cells, .bool false])) := by
  refine PSpec.of_WC cxA_ok Tryz.func393 rfl Tryz.call393 (Nat.le_of_ble_eq_true rfl) (g := 1) ?_
  conv => whnf
  refine RegP.enter ?_
  conv => whnf
  refine BoxP.frz ⟨rfl, ?_⟩
  conv => whnf
  repeat' ((first | refine RegP.enter ?_ | refine DrawP.range (by kernel_rfl) ?_ | refine BuildP.frz ⟨rfl, ?_⟩ | refine BoxP.row ?_ | refine And.intro (Nat.succ_pos _) ?_ | fail); conv => whnf)
  refine Ent.of_check ?_ rfl
  conv => whnf
  (iterate 3 ((all_goals try (conv => whnf)); (repeat' first | exact ⟨⟩ | refine And.intro ?_ ?_ | rfl | exact fun _ h => h | exact .inl rfl | exact none_some | exact .inr in4 | fail)))
theorem loOk : LoOk OI := by
  intro op l
  show match looseI op l with | .unk => True | .some g => _ | .none => _
  unfold looseI
  cases h3 : allKind 3 l with
  | false => trivial
  | true =>
    cases h1 : decide (op = oGt) with
    | true =>
      have := of_decide_eq_true h1
      subst this
      match l, h3 with
      | [], _ => trivial
      | [_], _ => trivial
      | [a, b], h3 =>
        have h3 : a.kind = 3 ∧ b.kind = 3 := by simpa [allKind] using h3
        exact loose_gt a b h3.1 h3.2
      | _ :: _ :: _ :: _, _ => trivial
    | false =>
      cases h2 : decide (op = oMax) with
      | true =>
        have := of_decide_eq_true h2
        subst this
        match l, h3 with
        | [], _ => trivial
        | v :: l, h3 => exact loose_max v l h3
      | false =>
        cases h4 : memB op [oAdd, oSubtract, oMultiply, oDivide, oMod] with
        | false => trivial
        | true =>
          have hm : op = oAdd ∨ op = oSubtract ∨ op = oMultiply ∨ op = oDivide ∨ op = oMod := by
            simpa [memB] using h4
          rcases hm with rfl | rfl | rfl | rfl | rfl
          · exact loose_oAdd l
          · exact loose_oSubtract l
          · exact loose_oMultiply l
          · exact loose_oDivide l
          · exact loose_oMod l
end Go.Eng
namespace Go.Eng
open Go.Proofs
set_option maxRecDepth 10000
theorem inInt_iff {n : Int} : inInt n = true ↔ -9223372036854775808 ≤ n ∧ n ≤ 9223372036854775807 := by
  unfold inInt MININT MAXINT; simp
theorem inInt_eq {n : Int} : inInt n = (decide (-9223372036854775808 ≤ n) && decide (n ≤ 9223372036854775807)) := rfl
theorem number_ok (n : Int) : PSpec cxA 406 [.int n] (.ret (.agg (gInt n).cells)) := by
  refine PSpec.of_WC cxA_ok Tryz.func406 rfl Tryz.call406 (Nat.le_of_ble_eq_true rfl) (g := 1) ?_
  conv => whnf
  repeat' ((first | refine RegP.enter ?_ | refine DrawP.range (by kernel_rfl) ?_ | refine BuildP.frz ⟨rfl, ?_⟩ | refine BoxP.row ?_ | refine And.intro (Nat.succ_pos _) ?_ | fail); conv => whnf)
  refine Ent.of_check ?_ rfl
  conv => whnf
  (iterate 3 ((all_goals try (conv => whnf)); (repeat' first | exact ⟨⟩ | refine And.intro ?_ ?_ | rfl | exact fun _ h => h | exact .inl rfl | exact none_some | exact .inr in4 | fail)))
theorem plus_yes (a b : Int) (ha : inInt a = true) (hb : inInt b = true) (h : inInt (a + b) = true) : PSpec cxA 414 [.int a, .int b] (.ret (.int (a + b))) := by
  have ho := plus_over (inInt_iff.1 ha) (inInt_iff.1 hb)
  rw [← inInt_eq, h] at ho
  have hw : IntKind.i64.wrap (a + b) = a + b := by have := inInt_iff.1 h; exact wrap64 (by omega) (by omega)
  refine PSpec.of_WC cxA_ok Tryz.func414 rfl Tryz.call414 (Nat.le_of_ble_eq_true rfl) (g := 1) ?_
  conv => whnf
  repeat' ((first | refine RegP.enter ?_ | refine DrawP.range (by kernel_rfl) ?_ | refine BuildP.frz ⟨rfl, ?_⟩ | refine BoxP.row ?_ | refine And.intro (Nat.succ_pos _) ?_ | fail); conv => whnf)
  refine br (fun hx => ?_) (fun hx => ?_)
  · exact absurd (ho.symm.trans hx) (by decide)
  try rw [hx]
  conv => whnf
  repeat' ((first | refine RegP.enter ?_ | refine DrawP.range (by kernel_rfl) ?_ | refine BuildP.frz ⟨rfl, ?_⟩ | refine BoxP.row ?_ | refine And.intro (Nat.succ_pos _) ?_ | fail); conv => whnf)
  refine Ent.of_check ?_ rfl
  conv => whnf
  (iterate 3 ((all_goals try (conv => whnf)); (repeat' first | exact ⟨⟩ | refine And.intro ?_ ?_ | rfl | exact fun _ h => h | exact .inl rfl | exact none_some | exact .inr in4 | fail)))
  exact hw
theorem plus_no (a b : Int) (ha : inInt a = true) (hb : inInt b = true) (h : inInt (a + b) = false) : MSpec cxA 414 [.int a, .int b] [] (fun _ : Unit => .pan (stopAV 52)) (fun _ => []) := by
  have ho := plus_over (inInt_iff.1 ha) (inInt_iff.1 hb)
  rw [← inInt_eq, h] at ho
  refine MSpec.of_WC cxA_ok Tryz.func414 rfl Tryz.call414 (Nat.le_of_ble_eq_true rfl) (g := 1) ?_
  conv => whnf
  repeat' ((first | refine RegP.enter ?_ | refine DrawP.range (by kernel_rfl) ?_ | refine BuildP.frz ⟨rfl, ?_⟩ | refine BoxP.row ?_ | refine And.intro (Nat.succ_pos _) ?_ | fail); conv => whnf)
  refine br (fun hx => ?_) (fun hx => ?_)
  rotate_left
  · exact absurd (ho.symm.trans hx) (by decide)
  try rw [hx]
  conv => whnf
  repeat' ((first | refine RegP.enter ?_ | refine DrawP.range (by kernel_rfl) ?_ | refine BuildP.frz ⟨rfl, ?_⟩ | refine BoxP.row ?_ | refine And.intro (Nat.succ_pos _) ?_ | fail); conv => whnf)
  refine call_mm [] 1 17 (fail_ok 52) ?_ ?_ ?_
  · conv => whnf
    (iterate 3 ((all_goals try (conv => whnf)); (repeat' first | exact ⟨⟩ | refine And.intro ?_ ?_ | rfl | exact fun _ h => h | exact .inl rfl | exact none_some | exact .inr in4 | fail)))
  · intro _; conv => whnf
    (iterate 3 ((all_goals try (conv => whnf)); (repeat' first | exact ⟨⟩ | refine And.intro ?_ ?_ | rfl | exact fun _ h => h | exact .inl rfl | exact none_some | exact .inr in4 | fail)))
  intro x; conv => whnf
  refine ⟨(), _, rfl, Sub.of_check [] ?_ (by repeat' first | exact Gen0.emp | exact Gen0.ofH rfl | refine Gen0.put ?_ (by decide) | refine Gen0.put0 ?_ ⟨_, rfl⟩)⟩
  conv => whnf
  (iterate 3 ((all_goals try (conv => whnf)); (repeat' first | exact ⟨⟩ | refine And.intro ?_ ?_ | rfl | exact fun _ h => h | exact .inl rfl | exact none_some | exact .inr in4 | fail)))
theorem minus_yes (a b : Int) (ha : inInt a = true) (hb : inInt b = true) (h : inInt (a - b) = true) : PSpec cxA 408 [.int a, .int b] (.ret (.int (a - b))) := by
  have ho := minus_over (inInt_iff.1 ha) (inInt_iff.1 hb)
  rw [← inInt_eq, h] at ho
  have hw : IntKind.i64.wrap (a - b) = a - b := by have := inInt_iff.1 h; exact wrap64 (by omega) (by omega)
  refine PSpec.of_WC cxA_ok Tryz.func408 rfl Tryz.call408 (Nat.le_of_ble_eq_true rfl) (g := 1) ?_
  conv => whnf
  repeat' ((first | refine RegP.enter ?_ | refine DrawP.range (by kernel_rfl) ?_ | refine BuildP.frz ⟨rfl, ?_⟩ | refine BoxP.row ?_ | refine And.intro (Nat.succ_pos _) ?_ | fail); conv => whnf)
  refine br (fun hx => ?_) (fun hx => ?_)
  · exact absurd (ho.symm.trans hx) (by decide)
  try rw [hx]
  conv => whnf
  repeat' ((first | refine RegP.enter ?_ | refine DrawP.range (by kernel_rfl) ?_ | refine BuildP.frz ⟨rfl, ?_⟩ | refine BoxP.row ?_ | refine And.intro (Nat.succ_pos _) ?_ | fail); conv => whnf)
  refine Ent.of_check ?_ rfl
  conv => whnf
  (iterate 3 ((all_goals try (conv => whnf)); (repeat' first | exact ⟨⟩ | refine And.intro ?_ ?_ | rfl | exact fun _ h => h | exact .inl rfl | exact none_some | exact .inr in4 | fail)))
  exact hw
theorem minus_no (a b : Int) (ha : inInt a = true) (hb : inInt b = true) (h : inInt (a - b) = false) : MSpec cxA 408 [.int a, .int b] [] (fun _ : Unit => .pan (stopAV 52)) (fun _ => []) := by
  have ho := minus_over (inInt_iff.1 ha) (inInt_iff.1 hb)
  rw [← inInt_eq, h] at ho
  refine MSpec.of_WC cxA_ok Tryz.func408 rfl Tryz.call408 (Nat.le_of_ble_eq_true rfl) (g := 1) ?_
  conv => whnf
  repeat' ((first | refine RegP.enter ?_ | refine DrawP.range (by kernel_rfl) ?_ | refine BuildP.frz ⟨rfl, ?_⟩ | refine BoxP.row ?_ | refine And.intro (Nat.succ_pos _) ?_ | fail); conv => whnf)
  refine br (fun hx => ?_) (fun hx => ?_)
  rotate_left
  · exact absurd (ho.symm.trans hx) (by decide)
  try rw [hx]
  conv => whnf
  repeat' ((first | refine RegP.enter ?_ | refine DrawP.range (by kernel_rfl) ?_ | refine BuildP.frz ⟨rfl, ?_⟩ | refine BoxP.row ?_ | refine And.intro (Nat.succ_pos _) ?_ | fail); conv => whnf)
  refine call_mm [] 1 17 (fail_ok 52) ?_ ?_ ?_
  · conv => whnf
    (iterate 3 ((all_goals try (conv => whnf)); (repeat' first | exact ⟨⟩ | refine And.intro ?_ ?_ | rfl | exact fun _ h => h | exact .inl rfl | exact none_some | exact .inr in4 | fail)))
  · intro _; conv => whnf
    (iterate 3 ((all_goals try (conv => whnf)); (repeat' first | exact ⟨⟩ | refine And.intro ?_ ?_ | rfl | exact fun _ h => h | exact .inl rfl | exact none_some | exact .inr in4 | fail)))
  intro x; conv => whnf
  refine ⟨(), _, rfl, Sub.of_check [] ?_ (by repeat' first | exact Gen0.emp | exact Gen0.ofH rfl | refine Gen0.put ?_ (by decide) | refine Gen0.put0 ?_ ⟨_, rfl⟩)⟩
  conv => whnf
  (iterate 3 ((all_goals try (conv => whnf)); (repeat' first | exact ⟨⟩ | refine And.intro ?_ ?_ | rfl | exact fun _ h => h | exact .inl rfl | exact none_some | exact .inr in4 | fail)))
end Go.Eng
namespace Go.Eng
open Go.Proofs
set_option maxRecDepth 10000
theorem wrapU (n : Int) : IntKind.u64.wrap n = n % 18446744073709551616 := by
  simp only [IntKind.wrap, IntKind.signed, IntKind.bits]
  simp
theorem abs_ok (a : Int) (ha : inInt a = true) : PSpec cxA 415 [.int a] (.ret (.lit (.int .u64 (a.natAbs : Int)))) := by
  have h := inInt_iff.1 ha
  refine PSpec.of_WC cxA_ok Tryz.func415 rfl Tryz.call415 (Nat.le_of_ble_eq_true rfl) (g := 1) ?_
  conv => whnf
  repeat' ((first | refine RegP.enter ?_ | refine DrawP.range (by kernel_rfl) ?_ | refine BuildP.frz ⟨rfl, ?_⟩ | refine BoxP.row ?_ | refine And.intro (Nat.succ_pos _) ?_ | fail); conv => whnf)
  refine br (fun hx => ?_) (fun hx => ?_)
  · have hx' : a < 0 := of_decide_eq_true hx
    try rw [hx]
    conv => whnf
    repeat' ((first | refine RegP.enter ?_ | refine DrawP.range (by kernel_rfl) ?_ | refine BuildP.frz ⟨rfl, ?_⟩ | refine BoxP.row ?_ | refine And.intro (Nat.succ_pos _) ?_ | fail); conv => whnf)
    refine Ent.of_check ?_ rfl
    conv => whnf
    (iterate 3 ((all_goals try (conv => whnf)); (repeat' first | exact ⟨⟩ | refine And.intro ?_ ?_ | rfl | exact fun _ h => h | exact .inl rfl | exact none_some | exact .inr in4 | fail)))
    rw [wrapU, wrapU]; omega
  · have hx' : ¬ a < 0 := of_decide_eq_false hx
    try rw [hx]
    conv => whnf
    repeat' ((first | refine RegP.enter ?_ | refine DrawP.range (by kernel_rfl) ?_ | refine BuildP.frz ⟨rfl, ?_⟩ | refine BoxP.row ?_ | refine And.intro (Nat.succ_pos _) ?_ | fail); conv => whnf)
    refine Ent.of_check ?_ rfl
    conv => whnf
    (iterate 3 ((all_goals try (conv => whnf)); (repeat' first | exact ⟨⟩ | refine And.intro ?_ ?_ | rfl | exact fun _ h => h | exact .inl rfl | exact none_some | exact .inr in4 | fail)))
    rw [wrapU]; omega
theorem times_in {a b : Int} : inInt (a * b) = !(decide ((a.natAbs * b.natAbs / 18446744073709551616 : Nat) ≠ 0) || decide (((a.natAbs * b.natAbs % 18446744073709551616 : Nat) : Int) > (match decide (a < 0) != decide (b < 0) with | true => 9223372036854775808 | false => 9223372036854775807))) := by
  cases h : decide (a < 0) != decide (b < 0)
  · have e := mul_sign2 h
    rw [Bool.eq_iff_iff, inInt_iff]
    simp only [Bool.not_eq_true', Bool.or_eq_false_iff, decide_eq_false_iff_not, ne_eq, Decidable.not_not]
    omega
  · have e := mul_sign h
    rw [Bool.eq_iff_iff, inInt_iff]
    simp only [Bool.not_eq_true', Bool.or_eq_false_iff, decide_eq_false_iff_not, ne_eq, Decidable.not_not]
    omega
theorem times_yes (a b : Int) (ha : inInt a = true) (hb : inInt b = true) (h : inInt (a * b) = true) : PSpec cxA 405 [.int a, .int b] (.ret (.int (a * b))) := by
  have h1 := inInt_iff.1 ha
  have h2 := inInt_iff.1 hb
  have hw : IntKind.i64.wrap (a * b) = a * b := by have := inInt_iff.1 h; exact wrap64 (by omega) (by omega)
  rw [times_in] at h
  have hm := mul64_ok a.natAbs b.natAbs (by omega) (by omega)
  generalize a.natAbs * b.natAbs / 18446744073709551616 = hi at *
  generalize a.natAbs * b.natAbs % 18446744073709551616 = lo at *
  refine PSpec.of_WC cxA_ok Tryz.func405 rfl Tryz.call405 (Nat.le_of_ble_eq_true rfl) (g := 1) ?_
  conv => whnf
  repeat' ((first | refine RegP.enter ?_ | refine DrawP.range (by kernel_rfl) ?_ | refine BuildP.frz ⟨rfl, ?_⟩ | refine BoxP.row ?_ | refine And.intro (Nat.succ_pos _) ?_ | refine call_same (abs_ok a ha) rfl ?_ | refine call_same (abs_ok b hb) rfl ?_ | refine call_same (hm) rfl ?_ | fail); conv => whnf)
  refine br (fun hs => ?_) (fun hs => ?_)
  · have hs' : (decide (a < 0) != decide (b < 0)) = true := hs
    rw [hs'] at h
    try rw [hs]
    conv => whnf
    repeat' ((first | refine RegP.enter ?_ | refine DrawP.range (by kernel_rfl) ?_ | refine BuildP.frz ⟨rfl, ?_⟩ | refine BoxP.row ?_ | refine And.intro (Nat.succ_pos _) ?_ | fail); conv => whnf)
    refine br (fun h0 => ?_) (fun h0 => ?_)
    · have h0' : decide (hi ≠ 0) = true := by have : ((hi : Int) != 0) = true := h0; simp at this ⊢; exact this
      rw [h0'] at h
      cases h
    · have h0' : decide (hi ≠ 0) = false := by have : ((hi : Int) != 0) = false := h0; simp at this ⊢; exact this
      rw [h0', Bool.false_or] at h
      try rw [h0]
      conv => whnf
      repeat' ((first | refine RegP.enter ?_ | refine DrawP.range (by kernel_rfl) ?_ | refine BuildP.frz ⟨rfl, ?_⟩ | refine BoxP.row ?_ | refine And.intro (Nat.succ_pos _) ?_ | fail); conv => whnf)
      refine br (fun hg => ?_) (fun hg => ?_)
      · have hg' : decide ((lo : Int) > 9223372036854775808) = true := hg
        have h' : (!decide ((lo : Int) > 9223372036854775808)) = true := h
        rw [hg'] at h'
        cases h'
      · have hg' : decide ((lo : Int) > 9223372036854775808) = false := hg
        try rw [hg]
        conv => whnf
        repeat' ((first | refine RegP.enter ?_ | refine DrawP.range (by kernel_rfl) ?_ | refine BuildP.frz ⟨rfl, ?_⟩ | refine BoxP.row ?_ | refine And.intro (Nat.succ_pos _) ?_ | fail); conv => whnf)
        refine Ent.of_check ?_ rfl
        conv => whnf
        (iterate 3 ((all_goals try (conv => whnf)); (repeat' first | exact ⟨⟩ | refine And.intro ?_ ?_ | rfl | exact fun _ h => h | exact .inl rfl | exact none_some | exact .inr in4 | fail)))
        exact hw
  · have hs' : (decide (a < 0) != decide (b < 0)) = false := hs
    rw [hs'] at h
    try rw [hs]
    conv => whnf
    repeat' ((first | refine RegP.enter ?_ | refine DrawP.range (by kernel_rfl) ?_ | refine BuildP.frz ⟨rfl, ?_⟩ | refine BoxP.row ?_ | refine And.intro (Nat.succ_pos _) ?_ | fail); conv => whnf)
    refine br (fun h0 => ?_) (fun h0 => ?_)
    · have h0' : decide (hi ≠ 0) = true := by have : ((hi : Int) != 0) = true := h0; simp at this ⊢; exact this
      rw [h0'] at h
      cases h
    · have h0' : decide (hi ≠ 0) = false := by have : ((hi : Int) != 0) = false := h0; simp at this ⊢; exact this
      rw [h0', Bool.false_or] at h
      try rw [h0]
      conv => whnf
      repeat' ((first | refine RegP.enter ?_ | refine DrawP.range (by kernel_rfl) ?_ | refine BuildP.frz ⟨rfl, ?_⟩ | refine BoxP.row ?_ | refine And.intro (Nat.succ_pos _) ?_ | fail); conv => whnf)
      refine br (fun hg => ?_) (fun hg => ?_)
      · have hg' : decide ((lo : Int) > 9223372036854775807) = true := hg
        have h' : (!decide ((lo : Int) > 9223372036854775807)) = true := h
        rw [hg'] at h'
        cases h'
      · have hg' : decide ((lo : Int) > 9223372036854775807) = false := hg
        try rw [hg]
        conv => whnf
        repeat' ((first | refine RegP.enter ?_ | refine DrawP.range (by kernel_rfl) ?_ | refine BuildP.frz ⟨rfl, ?_⟩ | refine BoxP.row ?_ | refine And.intro (Nat.succ_pos _) ?_ | fail); conv => whnf)
        refine Ent.of_check ?_ rfl
        conv => whnf
        (iterate 3 ((all_goals try (conv => whnf)); (repeat' first | exact ⟨⟩ | refine And.intro ?_ ?_ | rfl | exact fun _ h => h | exact .inl rfl | exact none_some | exact .inr in4 | fail)))
        exact hw
theorem times_no (a b : Int) (ha : inInt a = true) (hb : inInt b = true) (h : inInt (a * b) = false) : MSpec cxA 405 [.int a, .int b] [] (fun _ : Unit => .pan (stopAV 52)) (fun _ => []) := by
  have h1 := inInt_iff.1 ha
  have h2 := inInt_iff.1 hb
  rw [times_in] at h
  have hm := mul64_ok a.natAbs b.natAbs (by omega) (by omega)
  generalize a.natAbs * b.natAbs / 18446744073709551616 = hi at *
  generalize a.natAbs * b.natAbs % 18446744073709551616 = lo at *
  refine MSpec.of_WC cxA_ok Tryz.func405 rfl Tryz.call405 (Nat.le_of_ble_eq_true rfl) (g := 1) ?_
  conv => whnf
  repeat' ((first | refine RegP.enter ?_ | refine DrawP.range (by kernel_rfl) ?_ | refine BuildP.frz ⟨rfl, ?_⟩ | refine BoxP.row ?_ | refine And.intro (Nat.succ_pos _) ?_ | refine call_same (abs_ok a ha) rfl ?_ | refine call_same (abs_ok b hb) rfl ?_ | refine call_same (hm) rfl ?_ | fail); conv => whnf)
  refine br (fun hs => ?_) (fun hs => ?_)
  · have hs' : (decide (a < 0) != decide (b < 0)) = true := hs
    rw [hs'] at h
    try rw [hs]
    conv => whnf
    repeat' ((first | refine RegP.enter ?_ | refine DrawP.range (by kernel_rfl) ?_ | refine BuildP.frz ⟨rfl, ?_⟩ | refine BoxP.row ?_ | refine And.intro (Nat.succ_pos _) ?_ | fail); conv => whnf)
    refine br (fun h0 => ?_) (fun h0 => ?_)
    · have h0' : decide (hi ≠ 0) = true := by have : ((hi : Int) != 0) = true := h0; simp at this ⊢; exact this
      try rw [h0]
      conv => whnf
      repeat' ((first | refine RegP.enter ?_ | refine DrawP.range (by kernel_rfl) ?_ | refine BuildP.frz ⟨rfl, ?_⟩ | refine BoxP.row ?_ | refine And.intro (Nat.succ_pos _) ?_ | fail); conv => whnf)
      refine call_mm [] 1 33 (fail_ok 52) ?_ ?_ ?_
      · conv => whnf
        (iterate 3 ((all_goals try (conv => whnf)); (repeat' first | exact ⟨⟩ | refine And.intro ?_ ?_ | rfl | exact fun _ h => h | exact .inl rfl | exact none_some | exact .inr in4 | fail)))
      · intro _; conv => whnf
        (iterate 3 ((all_goals try (conv => whnf)); (repeat' first | exact ⟨⟩ | refine And.intro ?_ ?_ | rfl | exact fun _ h => h | exact .inl rfl | exact none_some | exact .inr in4 | fail)))
      intro x; conv => whnf
      refine ⟨(), _, rfl, Sub.of_check [] ?_ (by repeat' first | exact Gen0.emp | exact Gen0.ofH rfl | refine Gen0.put ?_ (by decide) | refine Gen0.put0 ?_ ⟨_, rfl⟩)⟩
      conv => whnf
      (iterate 3 ((all_goals try (conv => whnf)); (repeat' first | exact ⟨⟩ | refine And.intro ?_ ?_ | rfl | exact fun _ h => h | exact .inl rfl | exact none_some | exact .inr in4 | fail)))
    · have h0' : decide (hi ≠ 0) = false := by have : ((hi : Int) != 0) = false := h0; simp at this ⊢; exact this
      rw [h0', Bool.false_or] at h
      try rw [h0]
      conv => whnf
      repeat' ((first | refine RegP.enter ?_ | refine DrawP.range (by kernel_rfl) ?_ | refine BuildP.frz ⟨rfl, ?_⟩ | refine BoxP.row ?_ | refine And.intro (Nat.succ_pos _) ?_ | fail); conv => whnf)
      refine br (fun hg => ?_) (fun hg => ?_)
      · have hg' : decide ((lo : Int) > 9223372036854775808) = true := hg
        try rw [hg]
        conv => whnf
        repeat' ((first | refine RegP.enter ?_ | refine DrawP.range (by kernel_rfl) ?_ | refine BuildP.frz ⟨rfl, ?_⟩ | refine BoxP.row ?_ | refine And.intro (Nat.succ_pos _) ?_ | fail); conv => whnf)
        refine call_mm [] 1 33 (fail_ok 52) ?_ ?_ ?_
        · conv => whnf
          (iterate 3 ((all_goals try (conv => whnf)); (repeat' first | exact ⟨⟩ | refine And.intro ?_ ?_ | rfl | exact fun _ h => h | exact .inl rfl | exact none_some | exact .inr in4 | fail)))
        · intro _; conv => whnf
          (iterate 3 ((all_goals try (conv => whnf)); (repeat' first | exact ⟨⟩ | refine And.intro ?_ ?_ | rfl | exact fun _ h => h | exact .inl rfl | exact none_some | exact .inr in4 | fail)))
        intro x; conv => whnf
        refine ⟨(), _, rfl, Sub.of_check [] ?_ (by repeat' first | exact Gen0.emp | exact Gen0.ofH rfl | refine Gen0.put ?_ (by decide) | refine Gen0.put0 ?_ ⟨_, rfl⟩)⟩
        conv => whnf
        (iterate 3 ((all_goals try (conv => whnf)); (repeat' first | exact ⟨⟩ | refine And.intro ?_ ?_ | rfl | exact fun _ h => h | exact .inl rfl | exact none_some | exact .inr in4 | fail)))
      · have hg' : decide ((lo : Int) > 9223372036854775808) = false := hg
        have h' : (!decide ((lo : Int) > 9223372036854775808)) = false := h
        rw [hg'] at h'
        cases h'
  · have hs' : (decide (a < 0) != decide (b < 0)) = false := hs
    rw [hs'] at h
    try rw [hs]
    conv => whnf
    repeat' ((first | refine RegP.enter ?_ | refine DrawP.range (by kernel_rfl) ?_ | refine BuildP.frz ⟨rfl, ?_⟩ | refine BoxP.row ?_ | refine And.intro (Nat.succ_pos _) ?_ | fail); conv => whnf)
    refine br (fun h0 => ?_) (fun h0 => ?_)
    · have h0' : decide (hi ≠ 0) = true := by have : ((hi : Int) != 0) = true := h0; simp at this ⊢; exact this
      try rw [h0]
      conv => whnf
      repeat' ((first | refine RegP.enter ?_ | refine DrawP.range (by kernel_rfl) ?_ | refine BuildP.frz ⟨rfl, ?_⟩ | refine BoxP.row ?_ | refine And.intro (Nat.succ_pos _) ?_ | fail); conv => whnf)
      refine call_mm [] 1 33 (fail_ok 52) ?_ ?_ ?_
      · conv => whnf
        (iterate 3 ((all_goals try (conv => whnf)); (repeat' first | exact ⟨⟩ | refine And.intro ?_ ?_ | rfl | exact fun _ h => h | exact .inl rfl | exact none_some | exact .inr in4 | fail)))
      · intro _; conv => whnf
        (iterate 3 ((all_goals try (conv => whnf)); (repeat' first | exact ⟨⟩ | refine And.intro ?_ ?_ | rfl | exact fun _ h => h | exact .inl rfl | exact none_some | exact .inr in4 | fail)))
      intro x; conv => whnf
      refine ⟨(), _, rfl, Sub.of_check [] ?_ (by repeat' first | exact Gen0.emp | exact Gen0.ofH rfl | refine Gen0.put ?_ (by decide) | refine Gen0.put0 ?_ ⟨_, rfl⟩)⟩
      conv => whnf
      (iterate 3 ((all_goals try (conv => whnf)); (repeat' first | exact ⟨⟩ | refine And.intro ?_ ?_ | rfl | exact fun _ h => h | exact .inl rfl | exact none_some | exact .inr in4 | fail)))
    · have h0' : decide (hi ≠ 0) = false := by have : ((hi : Int) != 0) = false := h0; simp at this ⊢; exact this
      rw [h0', Bool.false_or] at h
      try rw [h0]
      conv => whnf
      repeat' ((first | refine RegP.enter ?_ | refine DrawP.range (by kernel_rfl) ?_ | refine BuildP.frz ⟨rfl, ?_⟩ | refine BoxP.row ?_ | refine And.intro (Nat.succ_pos _) ?_ | fail); conv => whnf)
      refine br (fun hg => ?_) (fun hg => ?_)
      · have hg' : decide ((lo : Int) > 9223372036854775807) = true := hg
        try rw [hg]
        conv => whnf
        repeat' ((first | refine RegP.enter ?_ | refine DrawP.range (by kernel_rfl) ?_ | refine BuildP.frz ⟨rfl, ?_⟩ | refine BoxP.row ?_ | refine And.intro (Nat.succ_pos _) ?_ | fail); conv => whnf)
        refine call_mm [] 1 33 (fail_ok 52) ?_ ?_ ?_
        · conv => whnf
          (iterate 3 ((all_goals try (conv => whnf)); (repeat' first | exact ⟨⟩ | refine And.intro ?_ ?_ | rfl | exact fun _ h => h | exact .inl rfl | exact none_some | exact .inr in4 | fail)))
        · intro _; conv => whnf
          (iterate 3 ((all_goals try (conv => whnf)); (repeat' first | exact ⟨⟩ | refine And.intro ?_ ?_ | rfl | exact fun _ h => h | exact .inl rfl | exact none_some | exact .inr in4 | fail)))
        intro x; conv => whnf
        refine ⟨(), _, rfl, Sub.of_check [] ?_ (by repeat' first | exact Gen0.emp | exact Gen0.ofH rfl | refine Gen0.put ?_ (by decide) | refine Gen0.put0 ?_ ⟨_, rfl⟩)⟩
        conv => whnf
        (iterate 3 ((all_goals try (conv => whnf)); (repeat' first | exact ⟨⟩ | refine And.intro ?_ ?_ | rfl | exact fun _ h => h | exact .inl rfl | exact none_some | exact .inr in4 | fail)))
      · have hg' : decide ((lo : Int) > 9223372036854775807) = false := hg
        have h' : (!decide ((lo : Int) > 9223372036854775807)) = false := h
        rw [hg'] at h'
        cases h'
end Go.Eng

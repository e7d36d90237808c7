/- Loops1: an engine for the program's code, and walks of its functions (Ln Lo Le Lf). -/
import Derived.Test.YtlcepambcoobgaaGreatDoorLoops0
import Derived.Test.YtlcepambcoobgaaGreatDoorEng24
import Derived.Test.YtlcepambcoobgaaGreatDoorEng21
import Derived.Test.YtlcepambcoobgaaGreatDoorEng13
namespace Go.Eng
open Go.Proofs
set_option maxRecDepth 10000
theorem slc_ok (g : GV) (A B : Nat) (t1 t2 : ByteArray) (l1 l2 : List GV) (d1 d2 : List (ByteArray × GV)) (hg : g.kind = 6) (hl : g.list.length ≤ 60000) (hA : A ≤ 100000) (hB : B ≤ 100000) (hr : 0 ≤ roomL (sliceM g.list A B) 0 65531) : PSpec cxA 410 [.str oSlice, .lz (.gl [g, .mk 3 A t1 l1 d1, .mk 3 B t2 l2 d2])] (.ret (.agg (gList (sliceM g.list A B)).cells)) := by
  cases h : min A g.list.length with
  | zero => exact slice0_ok g A B t1 t2 l1 l2 d1 d2 hg hl hA hB h hr
  | succ F => exact sliceS_ok g A B t1 t2 l1 l2 d1 d2 F hg hl hA hB h hr
def joinM (gs : List GV) : List GV := gs.flatMap GV.list
theorem joinM_app (a b : List GV) : joinM (a ++ b) = joinM a ++ joinM b := by simp [joinM]
theorem joinM_succ {gs : List GV} {i : Nat} (h : i < gs.length) : joinM (gs.take (i + 1)) = joinM (gs.take i) ++ (gs.getD i default).list := by
  rw [take_succ' h, joinM_app]; simp [joinM]
theorem roomL_pre (l m : List GV) (r : Int) : roomL (l ++ m) 0 r ≤ roomL l 0 r := by
  have := roomL_take (l ++ m) 0 r l.length
  rwa [List.take_left'] at this
  rfl
theorem join_pre {gs : List GV} {i : Nat} (h : i < gs.length) (j : Nat) : ∃ m, joinM gs = joinM (gs.take i) ++ (gs.getD i default).list.take j ++ m := by
  refine ⟨(gs.getD i default).list.drop j ++ joinM (gs.drop (i + 1)), ?_⟩
  have h1 : joinM gs = joinM (gs.take (i + 1)) ++ joinM (gs.drop (i + 1)) := by rw [← joinM_app, List.take_append_drop]
  rw [h1, joinM_succ h]
  conv => lhs; rw [← List.take_append_drop j (gs.getD i default).list]
  simp only [List.append_assoc]
theorem join_ok (g : GV) (r : List GV) (hk : allKind 6 (g :: r) = true) (hr : 0 ≤ roomL (joinM (g :: r)) 0 65531) : PSpec cxA 410 [.str oJoin, .lz (.gl (g :: r))] (.ret (.agg (gList (joinM (g :: r))).cells)) := by
  have hw6 := wantK_ok 6 [g] (by simp [allKind] at hk ⊢; exact hk.1)
  have hw := wantK_ok 6 (g :: r) hk
  have hg0 : ((g :: r).getD 0 default) = g := rfl
  generalize hgs : g :: r = gs at *
  rw [← hg0] at hw6
  have hp : 0 < gs.length := by rw [← hgs]; simp
  refine PSpec.of_WC cxA_ok Tryz.func410 rfl Tryz.call410 (Nat.le_of_ble_eq_true rfl) (g := 1) ?_
  conv => whnf
  refine RegP.enter ?_
  conv => whnf
  refine RegP.enter ?_
  conv => whnf
  refine And.intro (hp) ?_
  conv => whnf
  refine And.intro (hp) ?_
  conv => whnf
  repeat' ((first | refine RegP.enter ?_ | refine DrawP.range (by kernel_rfl) ?_ | refine BuildP.frz ⟨rfl, ?_⟩ | refine BoxP.row ?_ | refine And.intro (Nat.succ_pos _) ?_ | fail); conv => whnf)
  refine call_le (hw6) ?_ (by rfl) (by rfl) ?_
  · (iterate 3 ((all_goals try (conv => whnf)); (repeat' first | exact ⟨⟩ | refine And.intro ?_ ?_ | rfl | exact fun _ h => h | exact .inl rfl | exact none_some | exact .inr in4 | fail)))
    all_goals trace_state
  conv => whnf
  repeat' ((first | refine RegP.enter ?_ | refine DrawP.range (by kernel_rfl) ?_ | refine BuildP.frz ⟨rfl, ?_⟩ | refine BoxP.row ?_ | refine And.intro (Nat.succ_pos _) ?_ | fail); conv => whnf)
  refine And.intro (hp) ?_
  conv => whnf
  refine And.intro (hp) ?_
  conv => whnf
  repeat' ((first | refine RegP.enter ?_ | refine DrawP.range (by kernel_rfl) ?_ | refine BuildP.frz ⟨rfl, ?_⟩ | refine BoxP.row ?_ | refine And.intro (Nat.succ_pos _) ?_ | fail); conv => whnf)
  refine call_mm [] 1 31 (newPile_ok) ?_ ?_ ?_
  · conv => whnf
    (iterate 3 ((all_goals try (conv => whnf)); (repeat' first | exact ⟨⟩ | refine And.intro ?_ ?_ | rfl | exact fun _ h => h | exact .inl rfl | exact none_some | exact .inr in4 | fail)))
  · intro _; conv => whnf
    (iterate 3 ((all_goals try (conv => whnf)); (repeat' first | exact ⟨⟩ | refine And.intro ?_ ?_ | rfl | exact fun _ h => h | exact .inl rfl | exact none_some | exact .inr in4 | fail)))
  intro x; conv => whnf
  repeat' ((first | refine RegP.enter ?_ | refine DrawP.range (by kernel_rfl) ?_ | refine BuildP.frz ⟨rfl, ?_⟩ | refine BoxP.row ?_ | refine And.intro (Nat.succ_pos _) ?_ | refine call_same (hw) rfl ?_ | fail); conv => whnf)
  refine ⟨2, {i : Nat // i ≤ gs.length}, fun i => ([(4, .ptr (1,4,0) 0 0), (6, .ptr (1,6,0) 0 0), (106, .lz (.gl gs)), (107, .int gs.length), (108, .int i.1)], [((1,4,0), .cells 5 80 [[.int 0, .int 0, .str ⟨#[]⟩, .nil, .nil]]), ((1,6,0), .cells 1 8 [[.ptr (1,31,1) 0 0]]), ((1,31,1), pileRow (joinM (gs.take i.1)).length (2,0,0) (roomL (joinM (gs.take i.1)) 0 65531)), ((2,0,0), .cells 5 80 ((joinM (gs.take i.1)).map GV.cells))]), fun i => gs.length - i.1, ⟨⟨0, Nat.zero_le _⟩, Sub.of_check [((1,4,0), .old true (1,4,0)), ((1,6,0), .old true (1,6,0)), ((1,31,1), .old true (1,31,1)), ((2,0,0), .old true (1,31,2))] ?_ (by repeat' first | exact Gen0.emp | exact Gen0.ofH rfl | refine Gen0.put ?_ (by decide) | refine Gen0.put0 ?_ ⟨_, rfl⟩)⟩, fun ⟨ii, hi⟩ => ?_⟩
  · conv => whnf
    (iterate 3 ((all_goals try (conv => whnf)); (repeat' first | exact ⟨⟩ | refine And.intro ?_ ?_ | rfl | exact fun _ h => h | exact .inl rfl | exact none_some | exact .inr in4 | fail)))
    all_goals trace_state
  conv => whnf
  refine RegP.go fun hf => ?_
  conv => whnf
  refine br (fun hl1 => ?_) (fun hl1 => ?_)
  · have hlt : ii < gs.length := Int.ofNat_lt.1 (of_decide_eq_true hl1)
    have hRl := hf.lz 106 _ _ _ _ _ _ rfl rfl
    have hjs := joinM_succ hlt
    have hpre := join_pre hlt
    try rw [hl1]
    conv => whnf
    repeat' ((first | refine RegP.enter ?_ | refine DrawP.range (by kernel_rfl) ?_ | refine BuildP.frz ⟨rfl, ?_⟩ | refine BoxP.row ?_ | refine And.intro (Nat.succ_pos _) ?_ | fail); conv => whnf)
    refine And.intro (hlt) ?_
    conv => whnf
    refine And.intro (hlt) ?_
    conv => whnf
    generalize hX : gs.getD ii default = X at *
    obtain ⟨P, hP⟩ : ∃ P, P = joinM (gs.take ii) := ⟨_, rfl⟩
    rw [← hP] at hjs hpre
    have hQ0 : joinM (gs.take ii) = P ++ X.list.take 0 := by rw [List.take_zero, List.append_nil, hP]
    repeat' ((first | refine RegP.enter ?_ | refine DrawP.range (by kernel_rfl) ?_ | refine BuildP.frz ⟨rfl, ?_⟩ | refine BoxP.row ?_ | refine And.intro (Nat.succ_pos _) ?_ | fail); conv => whnf)
    refine ⟨3, {j : Nat // j ≤ X.list.length}, fun i => ([(4, .ptr (1,4,0) 0 0), (6, .ptr (1,6,0) 0 0), (106, .lz (.gl gs)), (107, .int gs.length), (108, .int ii), (113, .lz (.gl X.list)), (114, .int X.list.length), (115, .int i.1)], [((1,4,0), .cells 5 80 [[.int 0, .int 0, .str ⟨#[]⟩, .nil, .nil]]), ((1,6,0), .cells 1 8 [[.ptr (1,31,1) 0 0]]), ((1,31,1), pileRow (P ++ X.list.take i.1).length (2,0,0) (roomL (P ++ X.list.take i.1) 0 65531)), ((2,0,0), .cells 5 80 ((P ++ X.list.take i.1).map GV.cells))]), fun i => X.list.length - i.1, ⟨⟨0, Nat.zero_le _⟩, Sub.of_check [((1,4,0), .old true (1,4,0)), ((1,6,0), .old true (1,6,0)), ((1,31,1), .old true (1,31,1)), ((2,0,0), .old false (2,0,0))] ?_ (by repeat' first | exact Gen0.emp | exact Gen0.ofH rfl | refine Gen0.put ?_ (by decide) | refine Gen0.put0 ?_ ⟨_, rfl⟩)⟩, fun ⟨j, hj⟩ => ?_⟩
    · conv => whnf
      (iterate 3 ((all_goals try (conv => whnf)); (repeat' first | exact ⟨⟩ | refine And.intro ?_ ?_ | rfl | exact fun _ h => h | exact .inl rfl | exact none_some | exact .inr in4 | fail)))
      all_goals first | exact congrArg List.length hQ0 | exact congrArg (fun l => roomL l 0 65531) hQ0 | exact congrArg (List.map GV.cells) hQ0 | exact idfL_map idfL_cells _ | trace_state
    conv => whnf
    refine RegP.go fun hf2 => ?_
    conv => whnf
    refine br (fun hl2 => ?_) (fun hl2 => ?_)
    · have hlj : j < X.list.length := Int.ofNat_lt.1 (of_decide_eq_true hl2)
      have hRj := hf2.lz 113 _ _ _ _ _ _ rfl rfl
      have e2 := take_succ' hlj
      obtain ⟨m, hm⟩ := hpre (j + 1)
      have h1 : roomL (joinM gs) 0 65531 ≤ roomL (P ++ X.list.take (j + 1)) 0 65531 := by rw [hm]; exact roomL_pre _ _ _
      have h2 := roomL_le (P ++ X.list.take j) 0 65531
      have e1 : roomL (P ++ X.list.take (j + 1)) 0 65531 = pileM (P ++ X.list.take j).length (X.list.getD j default) (roomL (P ++ X.list.take j) 0 65531) := by
        rw [e2, ← List.append_assoc, roomL_app (P ++ X.list.take j)]; simp [roomL]
      have h3 := pileM_le (P ++ X.list.take j).length (X.list.getD j default) (roomL (P ++ X.list.take j) 0 65531)
      have hla : (P ++ X.list.take (j + 1)).length = (P ++ X.list.take j).length + 1 := by rw [e2]; simp; omega
      have e3 : (P ++ X.list.take j) ++ [X.list.getD j default] = P ++ X.list.take (j + 1) := by rw [e2, List.append_assoc]
      try rw [hl2]
      conv => whnf
      repeat' ((first | refine RegP.enter ?_ | refine DrawP.range (by kernel_rfl) ?_ | refine BuildP.frz ⟨rfl, ?_⟩ | refine BoxP.row ?_ | refine And.intro (Nat.succ_pos _) ?_ | fail); conv => whnf)
      refine And.intro (hlj) ?_
      conv => whnf
      refine And.intro (hlj) ?_
      conv => whnf
      repeat' ((first | refine RegP.enter ?_ | refine DrawP.range (by kernel_rfl) ?_ | refine BuildP.frz ⟨rfl, ?_⟩ | refine BoxP.row ?_ | refine And.intro (Nat.succ_pos _) ?_ | fail); conv => whnf)
      generalize hy : X.list.getD j default = y at *
      have hadd := add_yes (P ++ X.list.take j) y (roomL (P ++ X.list.take j) 0 65531) (by omega) (by omega) (by omega) (by omega)
      refine call_mm [((0,0,0), .old true (1,31,1)), ((0,1,0), .old false (2,0,0))] 3 121 (hadd) ?_ ?_ ?_
      · conv => whnf
        (iterate 3 ((all_goals try (conv => whnf)); (repeat' first | exact ⟨⟩ | refine And.intro ?_ ?_ | rfl | exact fun _ h => h | exact .inl rfl | exact none_some | exact .inr in4 | fail)))
        all_goals first | exact idfL_map idfL_cells _ | trace_state
      · intro _; conv => whnf
        (iterate 3 ((all_goals try (conv => whnf)); (repeat' first | exact ⟨⟩ | refine And.intro ?_ ?_ | rfl | exact fun _ h => h | exact .inl rfl | exact none_some | exact .inr in4 | fail)))
      intro x; conv => whnf
      repeat' ((first | refine RegP.enter ?_ | refine DrawP.range (by kernel_rfl) ?_ | refine BuildP.frz ⟨rfl, ?_⟩ | refine BoxP.row ?_ | refine And.intro (Nat.succ_pos _) ?_ | fail); conv => whnf)
      refine ⟨⟨j + 1, hlj⟩, (by show X.list.length - (j + 1) < X.list.length - j; omega), Sub.of_check [((1,4,0), .old true (1,4,0)), ((1,6,0), .old true (1,6,0)), ((1,31,1), .old true (1,31,1)), ((2,0,0), .old false (3,121,2))] ?_ (by repeat' first | exact Gen0.emp | exact Gen0.ofH rfl | refine Gen0.put ?_ (by decide) | refine Gen0.put0 ?_ ⟨_, rfl⟩)⟩
      conv => whnf
      (iterate 3 ((all_goals try (conv => whnf)); (repeat' first | exact ⟨⟩ | refine And.intro ?_ ?_ | rfl | exact fun _ h => h | exact .inl rfl | exact none_some | exact .inr in4 | fail)))
      all_goals first | exact wrap_succ hlj (le_of_mul (k := 79) hRj) | exact hla.symm | exact e1.symm | (rw [renLL_map idfL_cells, e3]) | exact idfL_map idfL_cells _ | trace_state
    have hjl : j = X.list.length := by
      have h' : ¬ ((j : Int) < ((X.list.length : Nat) : Int)) := of_decide_eq_false hl2
      have : j ≤ X.list.length := hj
      omega
    subst hjl
    have hPX : P ++ X.list.take X.list.length = joinM (gs.take (ii + 1)) := by rw [List.take_length, hjs]
    try rw [hl2]
    conv => whnf
    repeat' ((first | refine RegP.enter ?_ | refine DrawP.range (by kernel_rfl) ?_ | refine BuildP.frz ⟨rfl, ?_⟩ | refine BoxP.row ?_ | refine And.intro (Nat.succ_pos _) ?_ | fail); conv => whnf)
    refine ⟨⟨ii + 1, hlt⟩, (by show gs.length - (ii + 1) < gs.length - ii; omega), Sub.of_check [((1,4,0), .old true (1,4,0)), ((1,6,0), .old true (1,6,0)), ((1,31,1), .old true (1,31,1)), ((2,0,0), .old false (2,0,0))] ?_ (by repeat' first | exact Gen0.emp | exact Gen0.ofH rfl | refine Gen0.put ?_ (by decide) | refine Gen0.put0 ?_ ⟨_, rfl⟩)⟩
    conv => whnf
    (iterate 3 ((all_goals try (conv => whnf)); (repeat' first | exact ⟨⟩ | refine And.intro ?_ ?_ | rfl | exact fun _ h => h | exact .inl rfl | exact none_some | exact .inr in4 | fail)))
    all_goals first | exact wrap_succ hlt (le_of_mul (k := 79) hRl) | exact congrArg List.length hPX | exact congrArg (fun l => roomL l 0 65531) hPX | exact congrArg (List.map GV.cells) hPX | exact idfL_map idfL_cells _ | trace_state
  have hge : ii = gs.length := by
    have h' : ¬ ((ii : Int) < ((gs.length : Nat) : Int)) := of_decide_eq_false hl1
    have : ii ≤ gs.length := hi
    omega
  subst hge
  have hfull : gs.take gs.length = gs := List.take_length
  try rw [hl1]
  conv => whnf
  repeat' ((first | refine RegP.enter ?_ | refine DrawP.range (by kernel_rfl) ?_ | refine BuildP.frz ⟨rfl, ?_⟩ | refine BoxP.row ?_ | refine And.intro (Nat.succ_pos _) ?_ | fail); conv => whnf)
  refine Ent.of_check ?_ rfl
  conv => whnf
  (iterate 3 ((all_goals try (conv => whnf)); (repeat' first | exact ⟨⟩ | refine And.intro ?_ ?_ | rfl | exact fun _ h => h | exact .inl rfl | exact none_some | exact .inr in4 | fail)))
  all_goals rw [hfull]
  all_goals first | rfl | exact len_map _ _ | exact frz_all idfL_cells _
end Go.Eng
namespace Go.Eng
open Go.Proofs
set_option maxRecDepth 10000
theorem loose_oReverse (l : List GV) : PSpec cxA 393 [.str oReverse, .lz (.gl l)] (.ret (.tup [.agg gZero.cells, .bool false])) := by
  refine PSpec.of_WC cxA_ok Tryz.func393 rfl Tryz.call393 (Nat.le_of_ble_eq_true rfl) (g := 1) ?_
  conv => whnf
  refine RegP.enter ?_
  conv => whnf
  refine BoxP.frz ⟨rfl, ?_⟩
  conv => whnf
  repeat' ((first | refine RegP.enter ?_ | refine DrawP.range (by kernel_rfl) ?_ | refine BuildP.frz ⟨rfl, ?_⟩ | refine BoxP.row ?_ | refine And.intro (Nat.succ_pos _) ?_ | fail); conv => whnf)
  refine Ent.of_check ?_ rfl
  conv => whnf
  (iterate 3 ((all_goals try (conv => whnf)); (repeat' first | exact ⟨⟩ | refine And.intro ?_ ?_ | rfl | exact fun _ h => h | exact .inl rfl | exact none_some | exact .inr in4 | fail)))
theorem loose_oSlice (l : List GV) : PSpec cxA 393 [.str oSlice, .lz (.gl l)] (.ret (.tup [.agg gZero.cells, .bool false])) := by
  refine PSpec.of_WC cxA_ok Tryz.func393 rfl Tryz.call393 (Nat.le_of_ble_eq_true rfl) (g := 1) ?_
  conv => whnf
  refine RegP.enter ?_
  conv => whnf
  refine BoxP.frz ⟨rfl, ?_⟩
  conv => whnf
  repeat' ((first | refine RegP.enter ?_ | refine DrawP.range (by kernel_rfl) ?_ | refine BuildP.frz ⟨rfl, ?_⟩ | refine BoxP.row ?_ | refine And.intro (Nat.succ_pos _) ?_ | fail); conv => whnf)
  refine Ent.of_check ?_ rfl
  conv => whnf
  (iterate 3 ((all_goals try (conv => whnf)); (repeat' first | exact ⟨⟩ | refine And.intro ?_ ?_ | rfl | exact fun _ h => h | exact .inl rfl | exact none_some | exact .inr in4 | fail)))
theorem loose_oJoin (l : List GV) : PSpec cxA 393 [.str oJoin, .lz (.gl l)] (.ret (.tup [.agg gZero.cells, .bool false])) := by
  refine PSpec.of_WC cxA_ok Tryz.func393 rfl Tryz.call393 (Nat.le_of_ble_eq_true rfl) (g := 1) ?_
  conv => whnf
  refine RegP.enter ?_
  conv => whnf
  refine BoxP.frz ⟨rfl, ?_⟩
  conv => whnf
  repeat' ((first | refine RegP.enter ?_ | refine DrawP.range (by kernel_rfl) ?_ | refine BuildP.frz ⟨rfl, ?_⟩ | refine BoxP.row ?_ | refine And.intro (Nat.succ_pos _) ?_ | fail); conv => whnf)
  refine Ent.of_check ?_ rfl
  conv => whnf
  (iterate 3 ((all_goals try (conv => whnf)); (repeat' first | exact ⟨⟩ | refine And.intro ?_ ?_ | rfl | exact fun _ h => h | exact .inl rfl | exact none_some | exact .inr in4 | fail)))
theorem strict_lists {op : ByteArray} (hop : op = oReverse ∨ op = oSlice ∨ op = oJoin) (l : List GV) (r : GV) (h : PSpec cxA 410 [.str op, .lz (.gl l)] (.ret (.agg r.cells))) (doc : GV) (k : Int) : RsSpec 395 [.ptr (0,0,0) 0 0, .str op, .lz (.gl l)] doc k (.ok r k) := by
  rcases hop with rfl | rfl | rfl
  · refine MSpec.of_WC cxA_ok Tryz.func395 rfl Tryz.call395 (Nat.le_of_ble_eq_true rfl) (g := 1) ?_
    conv => whnf
    repeat' ((first | refine RegP.enter ?_ | refine DrawP.range (by kernel_rfl) ?_ | refine BuildP.frz ⟨rfl, ?_⟩ | refine BoxP.row ?_ | refine And.intro (Nat.succ_pos _) ?_ | refine call_same (h) rfl ?_ | fail); conv => whnf)
    refine ⟨(), _, rfl, Sub.of_check [((0,0,0), .old true (0,0,0))] ?_ (by repeat' first | exact Gen0.emp | exact Gen0.ofH rfl | refine Gen0.put ?_ (by decide) | refine Gen0.put0 ?_ ⟨_, rfl⟩)⟩
    conv => whnf
    (iterate 3 ((all_goals try (conv => whnf)); (repeat' first | exact ⟨⟩ | refine And.intro ?_ ?_ | rfl | exact fun _ h => h | exact .inl rfl | exact none_some | exact .inr in4 | fail)))
  · refine MSpec.of_WC cxA_ok Tryz.func395 rfl Tryz.call395 (Nat.le_of_ble_eq_true rfl) (g := 1) ?_
    conv => whnf
    repeat' ((first | refine RegP.enter ?_ | refine DrawP.range (by kernel_rfl) ?_ | refine BuildP.frz ⟨rfl, ?_⟩ | refine BoxP.row ?_ | refine And.intro (Nat.succ_pos _) ?_ | refine call_same (h) rfl ?_ | fail); conv => whnf)
    refine ⟨(), _, rfl, Sub.of_check [((0,0,0), .old true (0,0,0))] ?_ (by repeat' first | exact Gen0.emp | exact Gen0.ofH rfl | refine Gen0.put ?_ (by decide) | refine Gen0.put0 ?_ ⟨_, rfl⟩)⟩
    conv => whnf
    (iterate 3 ((all_goals try (conv => whnf)); (repeat' first | exact ⟨⟩ | refine And.intro ?_ ?_ | rfl | exact fun _ h => h | exact .inl rfl | exact none_some | exact .inr in4 | fail)))
  · refine MSpec.of_WC cxA_ok Tryz.func395 rfl Tryz.call395 (Nat.le_of_ble_eq_true rfl) (g := 1) ?_
    conv => whnf
    repeat' ((first | refine RegP.enter ?_ | refine DrawP.range (by kernel_rfl) ?_ | refine BuildP.frz ⟨rfl, ?_⟩ | refine BoxP.row ?_ | refine And.intro (Nat.succ_pos _) ?_ | refine call_same (h) rfl ?_ | fail); conv => whnf)
    refine ⟨(), _, rfl, Sub.of_check [((0,0,0), .old true (0,0,0))] ?_ (by repeat' first | exact Gen0.emp | exact Gen0.ofH rfl | refine Gen0.put ?_ (by decide) | refine Gen0.put0 ?_ ⟨_, rfl⟩)⟩
    conv => whnf
    (iterate 3 ((all_goals try (conv => whnf)); (repeat' first | exact ⟨⟩ | refine And.intro ?_ ?_ | rfl | exact fun _ h => h | exact .inl rfl | exact none_some | exact .inr in4 | fail)))
end Go.Eng
namespace Go.Eng
open Go.Proofs
set_option maxRecDepth 10000
set_option maxHeartbeats 1000000
theorem mapP_drop {ev : Nd → GV → List (ByteArray × GV) → Int → Rs GV} {doc : GV} {s : List (ByteArray × GV)} {nm : ByteArray} {body : Nd} {l : List GV} {i n : Nat} {room k : Int} (h : i < l.length) : mapP ev doc s nm body (l.drop i) n room k = (match stepF ev body doc ((nm, l.getD i default) :: s) k with
    | .unk => .unk
    | .fail e k => .fail e k
    | .ok g k => match decide (pileM n (fullM g) room < 0) with
      | true => .fail 3 k
      | false => match mapP ev doc s nm body (l.drop (i + 1)) (n + 1) (pileM n (fullM g) room) k with
        | .unk => .unk
        | .fail e k => .fail e k
        | .ok r k => .ok (fullM g :: r) k) := by
  have e : l.getD i default = l[i] := by simp [h]
  rw [List.drop_eq_getElem_cons h, e, mapP]; rfl
theorem mapP_bd {ev : Nd → GV → List (ByteArray × GV) → Int → Rs GV} (hev : EvOk ev) {doc : GV} {s : List (ByteArray × GV)} {nm : ByteArray} {body : Nd} : ∀ (l : List GV) (n : Nat) (room k : Int), StepOk k → RsBd k (mapP ev doc s nm body l n room k)
  | [], _, _, k, hk => ⟨Int.le_refl k, hk⟩
  | x :: l, n, room, k, hk => by
    have h := (step_ok hev body doc ((nm, x) :: s) k hk).2
    unfold mapP
    generalize stepF ev body doc ((nm, x) :: s) k = rs at *
    cases rs with
    | unk => trivial
    | fail e k' => exact h
    | ok g k' =>
      have hkk : k ≤ k' := by have := h.1; omega
      simp only
      cases decide (pileM n (fullM g) room < 0) with
      | true => exact h.2
      | false =>
        have ih := (mapP_bd hev (doc := doc) (s := s) (nm := nm) (body := body) l (n + 1) (pileM n (fullM g) room) k' h.2).mono hkk
        simp only
        generalize mapP ev doc s nm body l (n + 1) (pileM n (fullM g) room) k' = r at *
        cases r <;> exact ih
theorem redP_bd {ev : Nd → GV → List (ByteArray × GV) → Int → Rs GV} (hev : EvOk ev) {doc : GV} {s : List (ByteArray × GV)} {body : Nd} : ∀ (l : List GV) (sum : GV) (k : Int), StepOk k → RsBd k (redP ev doc s body l sum k)
  | [], sum, k, hk => withinM_bd (Int.le_refl k) hk
  | x :: l, sum, k, hk => by
    have h := (step_ok hev body doc ((sThis, x) :: (sValue, sum) :: s) k hk).2
    unfold redP
    generalize stepF ev body doc ((sThis, x) :: (sValue, sum) :: s) k = rs at *
    cases rs with
    | unk => trivial
    | fail e k' => exact h
    | ok g k' =>
      have hkk : k ≤ k' := by have := h.1; omega
      exact (redP_bd hev l (fullM g) k' h.2).mono hkk
theorem cellsOf_sc (s : List (ByteArray × GV)) : cellsOf (scAV s) = [scAV s] := by cases s <;> rfl
theorem okCell_sc (s : List (ByteArray × GV)) : okCell (scAV s) = true := by cases s <;> rfl
def lpCells (op nm : ByteArray) (over : Nd) (first : AV) (body : Nd) : List AV := [.str op, .str nm, .ifc over.ty over.val, first, .ifc body.ty body.val]
theorem idf_box (nm : ByteArray) (x : GV) (s : List (ByteArray × GV)) : idfL [.str nm, .int x.kind, .int x.int, .str x.text, .lz (.gl x.list), .lz (.gd x.doc), scAV s] = true := by
  simp [idfL, idf.idfL, idf, idf_sc]
theorem map_ok {ev : Nd → GV → List (ByteArray × GV) → Int → Rs GV} (hev : EvOk ev) (nm : ByteArray) (over body : Nd) (doc : GV) (s : List (ByteArray × GV)) (k : Int) (hk : StepOk k) :
    RsSpec 446 [(Nd.loop oMap nm over none body).val, .ptr (0,0,0) 0 0, scAV s] doc k (mapE ev nm over body doc s k) := by
  obtain ⟨hs, hb⟩ := step_ok hev over doc s k hk
  generalize hr : mapE ev nm over body doc s k = r
  unfold mapE at hr
  refine RsSpec.of fun hu => ?_
  refine MSpec.of_WC cxA_ok Tryz.func446 rfl Tryz.call446 (Nat.le_of_ble_eq_true rfl) (g := 1) ?_
  conv => whnf
  refine RegP.enter ?_
  conv => whnf
  refine BoxP.frz ⟨idf_val (.loop oMap nm over none body), ?_⟩
  conv => whnf
  repeat' ((first | refine RegP.enter ?_ | refine DrawP.range (by kernel_rfl) ?_ | refine BuildP.frz ⟨rfl, ?_⟩ | refine BoxP.row ?_ | refine And.intro (Nat.succ_pos _) ?_ | fail); conv => whnf)
  generalize stepF ev over doc s k = rs at *
  cases rs with
  | unk => exact absurd hr.symm hu
  | fail e k' =>
    replace hr : .fail e k' = r := hr
    subst hr
    refine call_mm [((0,0,0), .old true (0,0,0))] 1 19 (hs) ?_ ?_ ?_
    · conv => whnf
      (iterate 3 ((all_goals try (conv => whnf)); (repeat' first | exact ⟨⟩ | refine And.intro ?_ ?_ | rfl | exact fun _ h => h | exact .inl rfl | exact none_some | exact .inr in4 | fail)))
      all_goals first | exact leK_refl _ (idf_sc _) | exact leK_refl _ (idf_val _)
    · intro _; conv => whnf
      (iterate 3 ((all_goals try (conv => whnf)); (repeat' first | exact ⟨⟩ | refine And.intro ?_ ?_ | rfl | exact fun _ h => h | exact .inl rfl | exact none_some | exact .inr in4 | fail)))
    intro x; conv => whnf
    refine ⟨(), _, rfl, Sub.of_check [((0,0,0), .old true (0,0,0))] ?_ (by repeat' first | exact Gen0.emp | exact Gen0.ofH rfl | refine Gen0.put ?_ (by decide) | refine Gen0.put0 ?_ ⟨_, rfl⟩)⟩
    conv => whnf
    (iterate 3 ((all_goals try (conv => whnf)); (repeat' first | exact ⟨⟩ | refine And.intro ?_ ?_ | rfl | exact fun _ h => h | exact .inl rfl | exact none_some | exact .inr in4 | fail)))
  | ok g k' =>
    have hk' : StepOk k' := hb.2
    refine call_mm [((0,0,0), .old true (0,0,0))] 1 19 (hs) ?_ ?_ ?_
    · conv => whnf
      (iterate 3 ((all_goals try (conv => whnf)); (repeat' first | exact ⟨⟩ | refine And.intro ?_ ?_ | rfl | exact fun _ h => h | exact .inl rfl | exact none_some | exact .inr in4 | fail)))
      all_goals first | exact leK_refl _ (idf_sc _) | exact leK_refl _ (idf_val _)
    · intro _; conv => whnf
      (iterate 3 ((all_goals try (conv => whnf)); (repeat' first | exact ⟨⟩ | refine And.intro ?_ ?_ | rfl | exact fun _ h => h | exact .inl rfl | exact none_some | exact .inr in4 | fail)))
    intro x; conv => whnf
    repeat' ((first | refine RegP.enter ?_ | refine DrawP.range (by kernel_rfl) ?_ | refine BuildP.frz ⟨rfl, ?_⟩ | refine BoxP.row ?_ | refine And.intro (Nat.succ_pos _) ?_ | refine call_same (nothing_ok g) rfl ?_ | fail); conv => whnf)
    dsimp only at hr
    cases hn : nothingM g
    rotate_left
    · rw [hn] at hr
      replace hr : .ok gNull k' = r := hr
      subst hr
      conv => whnf
      repeat' ((first | refine RegP.enter ?_ | refine DrawP.range (by kernel_rfl) ?_ | refine BuildP.frz ⟨rfl, ?_⟩ | refine BoxP.row ?_ | refine And.intro (Nat.succ_pos _) ?_ | fail); conv => whnf)
      refine ⟨(), _, rfl, Sub.of_check [((0,0,0), .old true (0,0,0))] ?_ (by repeat' first | exact Gen0.emp | exact Gen0.ofH rfl | refine Gen0.put ?_ (by decide) | refine Gen0.put0 ?_ ⟨_, rfl⟩)⟩
      conv => whnf
      (iterate 3 ((all_goals try (conv => whnf)); (repeat' first | exact ⟨⟩ | refine And.intro ?_ ?_ | rfl | exact fun _ h => h | exact .inl rfl | exact none_some | exact .inr in4 | fail)))
    rw [hn] at hr
    dsimp only at hr
    conv => whnf
    repeat' ((first | refine RegP.enter ?_ | refine DrawP.range (by kernel_rfl) ?_ | refine BuildP.frz ⟨rfl, ?_⟩ | refine BoxP.row ?_ | refine And.intro (Nat.succ_pos _) ?_ | fail); conv => whnf)
    refine br (fun h6 => ?_) (fun h6 => ?_)
    · have e6 : decide (g.kind = 6) = false := by simpa using h6
      rw [e6] at hr
      replace hr : .fail 51 k' = r := hr
      subst hr
      try rw [h6]
      conv => whnf
      repeat' ((first | refine RegP.enter ?_ | refine DrawP.range (by kernel_rfl) ?_ | refine BuildP.frz ⟨rfl, ?_⟩ | refine BoxP.row ?_ | refine And.intro (Nat.succ_pos _) ?_ | fail); conv => whnf)
      refine call_mm [] 1 28 (fail_ok 51) ?_ ?_ ?_
      · conv => whnf
        (iterate 3 ((all_goals try (conv => whnf)); (repeat' first | exact ⟨⟩ | refine And.intro ?_ ?_ | rfl | exact fun _ h => h | exact .inl rfl | exact none_some | exact .inr in4 | fail)))
      · intro _; conv => whnf
        (iterate 3 ((all_goals try (conv => whnf)); (repeat' first | exact ⟨⟩ | refine And.intro ?_ ?_ | rfl | exact fun _ h => h | exact .inl rfl | exact none_some | exact .inr in4 | fail)))
      intro x; conv => whnf
      refine ⟨(), _, rfl, Sub.of_check [((0,0,0), .old true (0,0,0))] ?_ (by repeat' first | exact Gen0.emp | exact Gen0.ofH rfl | refine Gen0.put ?_ (by decide) | refine Gen0.put0 ?_ ⟨_, rfl⟩)⟩
      conv => whnf
      (iterate 3 ((all_goals try (conv => whnf)); (repeat' first | exact ⟨⟩ | refine And.intro ?_ ?_ | rfl | exact fun _ h => h | exact .inl rfl | exact none_some | exact .inr in4 | fail)))
    have e6 : decide (g.kind = 6) = true := by simpa using h6
    rw [e6] at hr
    replace hr : liftL [] (mapP ev doc s nm body g.list 0 65531 k') = r := by rw [← hr]; dsimp only; cases mapP ev doc s nm body g.list 0 65531 k' <;> rfl
    try rw [h6]
    conv => whnf
    repeat' ((first | refine RegP.enter ?_ | refine DrawP.range (by kernel_rfl) ?_ | refine BuildP.frz ⟨rfl, ?_⟩ | refine BoxP.row ?_ | refine And.intro (Nat.succ_pos _) ?_ | fail); conv => whnf)
    refine call_mm [] 1 60 (newPile_ok) ?_ ?_ ?_
    · conv => whnf
      (iterate 3 ((all_goals try (conv => whnf)); (repeat' first | exact ⟨⟩ | refine And.intro ?_ ?_ | rfl | exact fun _ h => h | exact .inl rfl | exact none_some | exact .inr in4 | fail)))
    · intro _; conv => whnf
      (iterate 3 ((all_goals try (conv => whnf)); (repeat' first | exact ⟨⟩ | refine And.intro ?_ ?_ | rfl | exact fun _ h => h | exact .inl rfl | exact none_some | exact .inr in4 | fail)))
    intro x; conv => whnf
    repeat' ((first | refine RegP.enter ?_ | refine DrawP.range (by kernel_rfl) ?_ | refine BuildP.frz ⟨rfl, ?_⟩ | refine BoxP.row ?_ | refine And.intro (Nat.succ_pos _) ?_ | fail); conv => whnf)
    generalize g.list = l at *
    refine ⟨2, {q : List GV × Int × Int // q.1.length ≤ l.length ∧ 0 ≤ q.2.1 ∧ q.2.1 + 2 * q.1.length ≤ 65531 ∧ StepOk q.2.2 ∧ liftL q.1 (mapP ev doc s nm body (l.drop q.1.length) q.1.length q.2.1 q.2.2) = r}, fun i => ([(1, .ptr (0,0,0) 0 0), (2, scAV s), (3, .fptr 5 1 (fun _ => lpCells oMap nm over (.lit .nilIface) body) 0 0), (6, .ptr (1,6,0) 0 0), (11, .ptr (1,60,1) 0 0), (62, .lz (.gl l)), (63, .int l.length), (64, .int i.1.1.length)], [((0,0,0), runRow doc i.1.2.2), ((1,6,0), .cells 5 80 [[.int 0, .int 0, .str ⟨#[]⟩, .nil, .nil]]), ((1,60,1), pileRow i.1.1.length (2,0,0) i.1.2.1), ((2,0,0), .cells 5 80 (i.1.1.map GV.cells))]), fun i => l.length - i.1.1.length, ⟨⟨([], 65531, k'), Nat.zero_le _, (show (0 : Int) ≤ 65531 by decide), (show (65531 : Int) + 2 * ((0 : Nat) : Int) ≤ 65531 by decide), hk', hr⟩, Sub.of_check [((0,0,0), .old true (0,0,0)), ((1,6,0), .old true (1,6,0)), ((1,60,1), .old true (1,60,1)), ((2,0,0), .old false (1,60,2))] ?_ (by repeat' first | exact Gen0.emp | exact Gen0.ofH rfl | refine Gen0.put ?_ (by decide) | refine Gen0.put0 ?_ ⟨_, rfl⟩)⟩, fun ⟨⟨q, room, kk⟩, hq, h0, h1, hkk, hia⟩ => ?_⟩
    · conv => whnf
      (iterate 3 ((all_goals try (conv => whnf)); (repeat' first | exact ⟨⟩ | refine And.intro ?_ ?_ | rfl | exact fun _ h => h | exact .inl rfl | exact none_some | exact .inr in4 | fail)))
      all_goals first | exact leK_refl _ (idf_sc _) | exact idfL_map idfL_cells _ | trace_state
    conv => whnf
    refine RegP.go fun hf => ?_
    conv => whnf
    refine br (fun hl => ?_) (fun hl => ?_)
    · have hlt : q.length < l.length := by simpa using hl
      have hRl := hf.lz 62 _ _ _ _ _ _ rfl rfl
      try rw [hl]
      conv => whnf
      refine RegP.enter ?_
      conv => whnf
      refine And.intro (hlt) ?_
      conv => whnf
      refine And.intro (hlt) ?_
      conv => whnf
      refine RegP.enter ?_
      conv => whnf
      refine And.intro (Nat.zero_lt_one) ?_
      conv => whnf
      refine And.intro (Nat.zero_lt_one) ?_
      conv => whnf
      rw [cellsOf_sc]
      conv => whnf
      rw [okCell_sc]
      conv => whnf
      rw [okCell_sc]
      conv => whnf
      refine BoxP.frz ⟨idf_box nm (l.getD q.length default) s, ?_⟩
      conv => whnf
      rw [mapP_drop hlt] at hia
      obtain ⟨hs2, hb2⟩ := step_ok hev body doc ((nm, l.getD q.length default) :: s) kk hkk
      replace hia : liftL q (match stepF ev body doc ((nm, l.getD q.length default) :: s) kk with | .unk => .unk | .fail e k => .fail e k | .ok g k => match decide (pileM q.length (fullM g) room < 0) with | true => .fail 3 k | false => match mapP ev doc s nm body (l.drop (q.length + 1)) (q.length + 1) (pileM q.length (fullM g) room) k with | .unk => .unk | .fail e k => .fail e k | .ok r k => .ok (fullM g :: r) k) = r := hia
      generalize stepF ev body doc ((nm, l.getD q.length default) :: s) kk = rs2 at *
      replace h0 : 0 ≤ room := h0
      replace h1 : room + 2 * q.length ≤ 65531 := h1
      cases rs2 with
      | unk => exact absurd hia.symm hu
      | fail e k2 =>
        replace hia : .fail e k2 = r := hia
        subst hia
        refine call_mm [((0,0,0), .old true (0,0,0))] 2 77 (hs2) ?_ ?_ ?_
        · conv => whnf
          (iterate 3 ((all_goals try (conv => whnf)); (repeat' first | exact ⟨⟩ | refine And.intro ?_ ?_ | rfl | exact fun _ h => h | exact .inl rfl | exact none_some | exact .inr in4 | fail)))
          all_goals first | exact leK_refl _ (idf_sc _) | exact leK_refl _ (idf_val _) | trace_state
        · intro _; conv => whnf
          (iterate 3 ((all_goals try (conv => whnf)); (repeat' first | exact ⟨⟩ | refine And.intro ?_ ?_ | rfl | exact fun _ h => h | exact .inl rfl | exact none_some | exact .inr in4 | fail)))
        intro x; conv => whnf
        refine ⟨(), _, rfl, Sub.of_check [((0,0,0), .old true (0,0,0))] ?_ (by repeat' first | exact Gen0.emp | exact Gen0.ofH rfl | refine Gen0.put ?_ (by decide) | refine Gen0.put0 ?_ ⟨_, rfl⟩)⟩
        conv => whnf
        (iterate 3 ((all_goals try (conv => whnf)); (repeat' first | exact ⟨⟩ | refine And.intro ?_ ?_ | rfl | exact fun _ h => h | exact .inl rfl | exact none_some | exact .inr in4 | fail)))
      | ok y k2 =>
        have h2 := pileM_le q.length (fullM y) room
        refine call_mm [((0,0,0), .old true (0,0,0))] 2 77 (hs2) ?_ ?_ ?_
        · conv => whnf
          (iterate 3 ((all_goals try (conv => whnf)); (repeat' first | exact ⟨⟩ | refine And.intro ?_ ?_ | rfl | exact fun _ h => h | exact .inl rfl | exact none_some | exact .inr in4 | fail)))
          all_goals first | exact leK_refl _ (idf_sc _) | exact leK_refl _ (idf_val _) | trace_state
        · intro _; conv => whnf
          (iterate 3 ((all_goals try (conv => whnf)); (repeat' first | exact ⟨⟩ | refine And.intro ?_ ?_ | rfl | exact fun _ h => h | exact .inl rfl | exact none_some | exact .inr in4 | fail)))
        intro x; conv => whnf
        repeat' ((first | refine RegP.enter ?_ | refine DrawP.range (by kernel_rfl) ?_ | refine BuildP.frz ⟨rfl, ?_⟩ | refine BoxP.row ?_ | refine And.intro (Nat.succ_pos _) ?_ | fail); conv => whnf)
        refine call_same (full_ok y) rfl ?_
        conv => whnf
        repeat' ((first | refine RegP.enter ?_ | refine DrawP.range (by kernel_rfl) ?_ | refine BuildP.frz ⟨rfl, ?_⟩ | refine BoxP.row ?_ | refine And.intro (Nat.succ_pos _) ?_ | fail); conv => whnf)
        cases hd : decide (pileM q.length (fullM y) room < 0)
        · have hd' : 0 ≤ pileM q.length (fullM y) room := by simpa using hd
          simp only [hd] at hia
          replace hia : liftL (q ++ [fullM y]) (mapP ev doc s nm body (l.drop (q.length + 1)) (q.length + 1) (pileM q.length (fullM y) room) k2) = r := (liftL_cons q (fullM y) _).symm.trans hia
          refine call_mm [((0,0,0), .old true (1,60,1)), ((0,1,0), .old false (2,0,0))] 2 85 (add_yes q (fullM y) room h0 (by omega) (by omega) hd') ?_ ?_ ?_
          · conv => whnf
            (iterate 3 ((all_goals try (conv => whnf)); (repeat' first | exact ⟨⟩ | refine And.intro ?_ ?_ | rfl | exact fun _ h => h | exact .inl rfl | exact none_some | exact .inr in4 | fail)))
            all_goals first | exact idfL_map idfL_cells _ | trace_state
          · intro _; conv => whnf
            (iterate 3 ((all_goals try (conv => whnf)); (repeat' first | exact ⟨⟩ | refine And.intro ?_ ?_ | rfl | exact fun _ h => h | exact .inl rfl | exact none_some | exact .inr in4 | fail)))
          intro x; conv => whnf
          repeat' ((first | refine RegP.enter ?_ | refine DrawP.range (by kernel_rfl) ?_ | refine BuildP.frz ⟨rfl, ?_⟩ | refine BoxP.row ?_ | refine And.intro (Nat.succ_pos _) ?_ | fail); conv => whnf)
          refine ⟨⟨(q ++ [fullM y], pileM q.length (fullM y) room, k2), by simp; omega, hd', by simp; omega, hb2.2, by simpa using hia⟩, (by simp; omega), Sub.of_check [((0,0,0), .old true (0,0,0)), ((1,6,0), .old true (1,6,0)), ((1,60,1), .old true (1,60,1)), ((2,0,0), .old false (2,85,2))] ?_ (by repeat' first | exact Gen0.emp | exact Gen0.ofH rfl | refine Gen0.put ?_ (by decide) | refine Gen0.put0 ?_ ⟨_, rfl⟩)⟩
          conv => whnf
          (iterate 3 ((all_goals try (conv => whnf)); (repeat' first | exact ⟨⟩ | refine And.intro ?_ ?_ | rfl | exact fun _ h => h | exact .inl rfl | exact none_some | exact .inr in4 | fail)))
          all_goals first | exact leK_refl _ (idf_sc _) | (show IntKind.i64.wrap ((q.length : Int) + 1) = (((q ++ [fullM y]).length : Nat) : Int); rw [List.length_append]; exact wrap_succ hlt (le_of_mul (k := 79) hRl)) | exact renLL_map idfL_cells _ _ | exact idfL_map idfL_cells _ | (show q.length + 1 = (q ++ [fullM y]).length; simp; done) | trace_state
        · have hd' : pileM q.length (fullM y) room < 0 := by simpa using hd
          simp only [hd] at hia
          replace hia : .fail 3 k2 = r := hia
          subst hia
          refine call_mm [((0,0,0), .old true (1,60,1)), ((0,1,0), .old false (2,0,0))] 2 85 (add_no q (fullM y) room h0 (by omega) (by omega) hd') ?_ ?_ ?_
          · conv => whnf
            (iterate 3 ((all_goals try (conv => whnf)); (repeat' first | exact ⟨⟩ | refine And.intro ?_ ?_ | rfl | exact fun _ h => h | exact .inl rfl | exact none_some | exact .inr in4 | fail)))
            all_goals first | exact idfL_map idfL_cells _ | trace_state
          · intro _; conv => whnf
            (iterate 3 ((all_goals try (conv => whnf)); (repeat' first | exact ⟨⟩ | refine And.intro ?_ ?_ | rfl | exact fun _ h => h | exact .inl rfl | exact none_some | exact .inr in4 | fail)))
          intro x; conv => whnf
          refine ⟨(), _, rfl, Sub.of_check [((0,0,0), .old true (0,0,0))] ?_ (by repeat' first | exact Gen0.emp | exact Gen0.ofH rfl | refine Gen0.put ?_ (by decide) | refine Gen0.put0 ?_ ⟨_, rfl⟩)⟩
          conv => whnf
          (iterate 3 ((all_goals try (conv => whnf)); (repeat' first | exact ⟨⟩ | refine And.intro ?_ ?_ | rfl | exact fun _ h => h | exact .inl rfl | exact none_some | exact .inr in4 | fail)))
    have hge : q.length = l.length := by
      have : ¬ q.length < l.length := by simpa using hl
      have : q.length ≤ l.length := hq
      omega
    have hia : .ok (gList q) kk = r := by
      rw [← hia]
      show _ = liftL q (mapP ev doc s nm body (l.drop q.length) q.length room kk)
      rw [hge, List.drop_length]
      simp [mapP, liftL]
    subst hia
    try rw [hl]
    conv => whnf
    repeat' ((first | refine RegP.enter ?_ | refine DrawP.range (by kernel_rfl) ?_ | refine BuildP.frz ⟨rfl, ?_⟩ | refine BoxP.row ?_ | refine And.intro (Nat.succ_pos _) ?_ | fail); conv => whnf)
    refine ⟨(), _, rfl, Sub.of_check [((0,0,0), .old true (0,0,0))] ?_ (by repeat' first | exact Gen0.emp | exact Gen0.ofH rfl | refine Gen0.put ?_ (by decide) | refine Gen0.put0 ?_ ⟨_, rfl⟩)⟩
    conv => whnf
    (iterate 3 ((all_goals try (conv => whnf)); (repeat' first | exact ⟨⟩ | refine And.intro ?_ ?_ | rfl | exact fun _ h => h | exact .inl rfl | exact none_some | exact .inr in4 | fail)))
    all_goals first | exact len_map _ _ | exact frz_all idfL_cells _ | trace_state
end Go.Eng
namespace Go.Eng
open Go.Proofs
set_option maxRecDepth 10000
set_option maxHeartbeats 1000000
theorem redP_drop {ev : Nd → GV → List (ByteArray × GV) → Int → Rs GV} {doc : GV} {s : List (ByteArray × GV)} {body : Nd} {l : List GV} {i : Nat} {sum : GV} {k : Int} (h : i < l.length) : redP ev doc s body (l.drop i) sum k = (match stepF ev body doc ((sThis, l.getD i default) :: (sValue, sum) :: s) k with
    | .unk => .unk
    | .fail e k => .fail e k
    | .ok g k => redP ev doc s body (l.drop (i + 1)) (fullM g) k) := by
  have e : l.getD i default = l[i] := by simp [h]
  rw [List.drop_eq_getElem_cons h, e, redP]; rfl
theorem red_ok {ev : Nd → GV → List (ByteArray × GV) → Int → Rs GV} (hev : EvOk ev) (over first body : Nd) (doc : GV) (s : List (ByteArray × GV)) (k : Int) (hk : StepOk k) :
    RsSpec 446 [(Nd.loop oReduce ⟨#[]⟩ over (some first) body).val, .ptr (0,0,0) 0 0, scAV s] doc k (redE ev over first body doc s k) := by
  obtain ⟨hs, hb⟩ := step_ok hev over doc s k hk
  generalize hr : redE ev over first body doc s k = r
  unfold redE at hr
  refine RsSpec.of fun hu => ?_
  refine MSpec.of_WC cxA_ok Tryz.func446 rfl Tryz.call446 (Nat.le_of_ble_eq_true rfl) (g := 1) ?_
  conv => whnf
  refine RegP.enter ?_
  conv => whnf
  refine BoxP.frz ⟨idf_val (.loop oReduce ⟨#[]⟩ over (some first) body), ?_⟩
  conv => whnf
  repeat' ((first | refine RegP.enter ?_ | refine DrawP.range (by kernel_rfl) ?_ | refine BuildP.frz ⟨rfl, ?_⟩ | refine BoxP.row ?_ | refine And.intro (Nat.succ_pos _) ?_ | fail); conv => whnf)
  generalize stepF ev over doc s k = rs at *
  cases rs with
  | unk => exact absurd hr.symm hu
  | fail e k' =>
    replace hr : .fail e k' = r := hr
    subst hr
    refine call_mm [((0,0,0), .old true (0,0,0))] 1 19 (hs) ?_ ?_ ?_
    · conv => whnf
      (iterate 3 ((all_goals try (conv => whnf)); (repeat' first | exact ⟨⟩ | refine And.intro ?_ ?_ | rfl | exact fun _ h => h | exact .inl rfl | exact none_some | exact .inr in4 | fail)))
      all_goals first | exact leK_refl _ (idf_sc _) | exact leK_refl _ (idf_val _)
    · intro _; conv => whnf
      (iterate 3 ((all_goals try (conv => whnf)); (repeat' first | exact ⟨⟩ | refine And.intro ?_ ?_ | rfl | exact fun _ h => h | exact .inl rfl | exact none_some | exact .inr in4 | fail)))
    intro x; conv => whnf
    refine ⟨(), _, rfl, Sub.of_check [((0,0,0), .old true (0,0,0))] ?_ (by repeat' first | exact Gen0.emp | exact Gen0.ofH rfl | refine Gen0.put ?_ (by decide) | refine Gen0.put0 ?_ ⟨_, rfl⟩)⟩
    conv => whnf
    (iterate 3 ((all_goals try (conv => whnf)); (repeat' first | exact ⟨⟩ | refine And.intro ?_ ?_ | rfl | exact fun _ h => h | exact .inl rfl | exact none_some | exact .inr in4 | fail)))
  | ok g k' =>
    have hk' : StepOk k' := hb.2
    refine call_mm [((0,0,0), .old true (0,0,0))] 1 19 (hs) ?_ ?_ ?_
    · conv => whnf
      (iterate 3 ((all_goals try (conv => whnf)); (repeat' first | exact ⟨⟩ | refine And.intro ?_ ?_ | rfl | exact fun _ h => h | exact .inl rfl | exact none_some | exact .inr in4 | fail)))
      all_goals first | exact leK_refl _ (idf_sc _) | exact leK_refl _ (idf_val _)
    · intro _; conv => whnf
      (iterate 3 ((all_goals try (conv => whnf)); (repeat' first | exact ⟨⟩ | refine And.intro ?_ ?_ | rfl | exact fun _ h => h | exact .inl rfl | exact none_some | exact .inr in4 | fail)))
    intro x; conv => whnf
    repeat' ((first | refine RegP.enter ?_ | refine DrawP.range (by kernel_rfl) ?_ | refine BuildP.frz ⟨rfl, ?_⟩ | refine BoxP.row ?_ | refine And.intro (Nat.succ_pos _) ?_ | refine call_same (nothing_ok g) rfl ?_ | fail); conv => whnf)
    dsimp only at hr
    cases hn : nothingM g
    rotate_left
    · rw [hn] at hr
      replace hr : .ok gNull k' = r := hr
      subst hr
      conv => whnf
      repeat' ((first | refine RegP.enter ?_ | refine DrawP.range (by kernel_rfl) ?_ | refine BuildP.frz ⟨rfl, ?_⟩ | refine BoxP.row ?_ | refine And.intro (Nat.succ_pos _) ?_ | fail); conv => whnf)
      refine ⟨(), _, rfl, Sub.of_check [((0,0,0), .old true (0,0,0))] ?_ (by repeat' first | exact Gen0.emp | exact Gen0.ofH rfl | refine Gen0.put ?_ (by decide) | refine Gen0.put0 ?_ ⟨_, rfl⟩)⟩
      conv => whnf
      (iterate 3 ((all_goals try (conv => whnf)); (repeat' first | exact ⟨⟩ | refine And.intro ?_ ?_ | rfl | exact fun _ h => h | exact .inl rfl | exact none_some | exact .inr in4 | fail)))
    rw [hn] at hr
    dsimp only at hr
    conv => whnf
    repeat' ((first | refine RegP.enter ?_ | refine DrawP.range (by kernel_rfl) ?_ | refine BuildP.frz ⟨rfl, ?_⟩ | refine BoxP.row ?_ | refine And.intro (Nat.succ_pos _) ?_ | fail); conv => whnf)
    refine br (fun h6 => ?_) (fun h6 => ?_)
    · have e6 : decide (g.kind = 6) = false := by simpa using h6
      rw [e6] at hr
      replace hr : .fail 51 k' = r := hr
      subst hr
      try rw [h6]
      conv => whnf
      repeat' ((first | refine RegP.enter ?_ | refine DrawP.range (by kernel_rfl) ?_ | refine BuildP.frz ⟨rfl, ?_⟩ | refine BoxP.row ?_ | refine And.intro (Nat.succ_pos _) ?_ | fail); conv => whnf)
      refine call_mm [] 1 28 (fail_ok 51) ?_ ?_ ?_
      · conv => whnf
        (iterate 3 ((all_goals try (conv => whnf)); (repeat' first | exact ⟨⟩ | refine And.intro ?_ ?_ | rfl | exact fun _ h => h | exact .inl rfl | exact none_some | exact .inr in4 | fail)))
      · intro _; conv => whnf
        (iterate 3 ((all_goals try (conv => whnf)); (repeat' first | exact ⟨⟩ | refine And.intro ?_ ?_ | rfl | exact fun _ h => h | exact .inl rfl | exact none_some | exact .inr in4 | fail)))
      intro x; conv => whnf
      refine ⟨(), _, rfl, Sub.of_check [((0,0,0), .old true (0,0,0))] ?_ (by repeat' first | exact Gen0.emp | exact Gen0.ofH rfl | refine Gen0.put ?_ (by decide) | refine Gen0.put0 ?_ ⟨_, rfl⟩)⟩
      conv => whnf
      (iterate 3 ((all_goals try (conv => whnf)); (repeat' first | exact ⟨⟩ | refine And.intro ?_ ?_ | rfl | exact fun _ h => h | exact .inl rfl | exact none_some | exact .inr in4 | fail)))
    have e6 : decide (g.kind = 6) = true := by simpa using h6
    rw [e6] at hr
    dsimp only at hr
    obtain ⟨hs1, hb1⟩ := step_ok hev first doc s k' hk'
    try rw [h6]
    conv => whnf
    repeat' ((first | refine RegP.enter ?_ | refine DrawP.range (by kernel_rfl) ?_ | refine BuildP.frz ⟨rfl, ?_⟩ | refine BoxP.row ?_ | refine And.intro (Nat.succ_pos _) ?_ | fail); conv => whnf)
    generalize stepF ev first doc s k' = rs1 at *
    cases rs1 with
    | unk => exact absurd hr.symm hu
    | fail e k1 =>
      replace hr : .fail e k1 = r := hr
      subst hr
      refine call_mm [((0,0,0), .old true (0,0,0))] 1 36 (hs1) ?_ ?_ ?_
      · conv => whnf
        (iterate 3 ((all_goals try (conv => whnf)); (repeat' first | exact ⟨⟩ | refine And.intro ?_ ?_ | rfl | exact fun _ h => h | exact .inl rfl | exact none_some | exact .inr in4 | fail)))
        all_goals first | exact leK_refl _ (idf_sc _) | exact leK_refl _ (idf_val _)
      · intro _; conv => whnf
        (iterate 3 ((all_goals try (conv => whnf)); (repeat' first | exact ⟨⟩ | refine And.intro ?_ ?_ | rfl | exact fun _ h => h | exact .inl rfl | exact none_some | exact .inr in4 | fail)))
      intro x; conv => whnf
      refine ⟨(), _, rfl, Sub.of_check [((0,0,0), .old true (0,0,0))] ?_ (by repeat' first | exact Gen0.emp | exact Gen0.ofH rfl | refine Gen0.put ?_ (by decide) | refine Gen0.put0 ?_ ⟨_, rfl⟩)⟩
      conv => whnf
      (iterate 3 ((all_goals try (conv => whnf)); (repeat' first | exact ⟨⟩ | refine And.intro ?_ ?_ | rfl | exact fun _ h => h | exact .inl rfl | exact none_some | exact .inr in4 | fail)))
    | ok f k1 =>
    replace hr : redP ev doc s body g.list (fullM f) k1 = r := hr
    refine call_mm [((0,0,0), .old true (0,0,0))] 1 36 (hs1) ?_ ?_ ?_
    · conv => whnf
      (iterate 3 ((all_goals try (conv => whnf)); (repeat' first | exact ⟨⟩ | refine And.intro ?_ ?_ | rfl | exact fun _ h => h | exact .inl rfl | exact none_some | exact .inr in4 | fail)))
      all_goals first | exact leK_refl _ (idf_sc _) | exact leK_refl _ (idf_val _)
    · intro _; conv => whnf
      (iterate 3 ((all_goals try (conv => whnf)); (repeat' first | exact ⟨⟩ | refine And.intro ?_ ?_ | rfl | exact fun _ h => h | exact .inl rfl | exact none_some | exact .inr in4 | fail)))
    intro x; conv => whnf
    repeat' ((first | refine RegP.enter ?_ | refine DrawP.range (by kernel_rfl) ?_ | refine BuildP.frz ⟨rfl, ?_⟩ | refine BoxP.row ?_ | refine And.intro (Nat.succ_pos _) ?_ | refine call_same (full_ok f) rfl ?_ | fail); conv => whnf)
    generalize g.list = l at *
    generalize fullM f = sum0 at *
    refine ⟨2, {q : Nat × GV × Int // q.1 ≤ l.length ∧ StepOk q.2.2 ∧ redP ev doc s body (l.drop q.1) q.2.1 q.2.2 = r}, fun i => ([(1, .ptr (0,0,0) 0 0), (2, scAV s), (3, .fptr 5 1 (fun _ => lpCells oReduce ⟨#[]⟩ over (.ifc first.ty first.val) body) 0 0), (6, .ptr (1,6,0) 0 0), (8, .ptr (1,8,0) 0 0), (39, .lz (.gl l)), (40, .int l.length), (41, .int i.1.1)], [((0,0,0), runRow doc i.1.2.2), ((1,6,0), .cells 5 80 [[.int 0, .int 0, .str ⟨#[]⟩, .nil, .nil]]), ((1,8,0), .cells 5 80 [i.1.2.1.cells])]), fun i => l.length - i.1.1, ⟨⟨(0, sum0, k1), Nat.zero_le _, hb1.2, hr⟩, Sub.of_check [((0,0,0), .old true (0,0,0)), ((1,6,0), .old true (1,6,0)), ((1,8,0), .old true (1,8,0))] ?_ (by repeat' first | exact Gen0.emp | exact Gen0.ofH rfl | refine Gen0.put ?_ (by decide) | refine Gen0.put0 ?_ ⟨_, rfl⟩)⟩, fun ⟨⟨q, sum, kk⟩, hq, hkk, hia⟩ => ?_⟩
    · conv => whnf
      (iterate 3 ((all_goals try (conv => whnf)); (repeat' first | exact ⟨⟩ | refine And.intro ?_ ?_ | rfl | exact fun _ h => h | exact .inl rfl | exact none_some | exact .inr in4 | fail)))
      all_goals first | exact leK_refl _ (idf_sc _) | exact idfL_map idfL_cells _ | trace_state
    conv => whnf
    refine RegP.go fun hf => ?_
    conv => whnf
    refine br (fun hl => ?_) (fun hl => ?_)
    · have hlt : q < l.length := by simpa using hl
      have hRl := hf.lz 39 _ _ _ _ _ _ rfl rfl
      try rw [hl]
      conv => whnf
      refine RegP.enter ?_
      conv => whnf
      refine And.intro (hlt) ?_
      conv => whnf
      refine And.intro (hlt) ?_
      conv => whnf
      refine RegP.enter ?_
      conv => whnf
      refine And.intro (Nat.zero_lt_one) ?_
      conv => whnf
      rw [cellsOf_sc]
      conv => whnf
      rw [okCell_sc]
      conv => whnf
      rw [okCell_sc]
      conv => whnf
      refine BoxP.frz ⟨idf_box sValue sum s, ?_⟩
      conv => whnf
      refine BoxP.frz ⟨rfl, ?_⟩
      conv => whnf
      rw [redP_drop hlt] at hia
      obtain ⟨hs2, hb2⟩ := step_ok hev body doc ((sThis, l.getD q default) :: (sValue, sum) :: s) kk hkk
      replace hia : (match stepF ev body doc ((sThis, l.getD q default) :: (sValue, sum) :: s) kk with | .unk => .unk | .fail e k => .fail e k | .ok g k => redP ev doc s body (l.drop (q + 1)) (fullM g) k) = r := hia
      generalize stepF ev body doc ((sThis, l.getD q default) :: (sValue, sum) :: s) kk = rs2 at *
      cases rs2 with
      | unk => exact absurd hia.symm hu
      | fail e k2 =>
        replace hia : .fail e k2 = r := hia
        subst hia
        refine call_mm [((0,0,0), .old true (0,0,0))] 2 55 (hs2) ?_ ?_ ?_
        · conv => whnf
          (iterate 3 ((all_goals try (conv => whnf)); (repeat' first | exact ⟨⟩ | refine And.intro ?_ ?_ | rfl | exact fun _ h => h | exact .inl rfl | exact none_some | exact .inr in4 | fail)))
          all_goals first | exact leK_refl _ (idf_sc _) | exact leK_refl _ (idf_val _) | trace_state
        · intro _; conv => whnf
          (iterate 3 ((all_goals try (conv => whnf)); (repeat' first | exact ⟨⟩ | refine And.intro ?_ ?_ | rfl | exact fun _ h => h | exact .inl rfl | exact none_some | exact .inr in4 | fail)))
        intro x; conv => whnf
        refine ⟨(), _, rfl, Sub.of_check [((0,0,0), .old true (0,0,0))] ?_ (by repeat' first | exact Gen0.emp | exact Gen0.ofH rfl | refine Gen0.put ?_ (by decide) | refine Gen0.put0 ?_ ⟨_, rfl⟩)⟩
        conv => whnf
        (iterate 3 ((all_goals try (conv => whnf)); (repeat' first | exact ⟨⟩ | refine And.intro ?_ ?_ | rfl | exact fun _ h => h | exact .inl rfl | exact none_some | exact .inr in4 | fail)))
      | ok y k2 =>
        replace hia : redP ev doc s body (l.drop (q + 1)) (fullM y) k2 = r := hia
        refine call_mm [((0,0,0), .old true (0,0,0))] 2 55 (hs2) ?_ ?_ ?_
        · conv => whnf
          (iterate 3 ((all_goals try (conv => whnf)); (repeat' first | exact ⟨⟩ | refine And.intro ?_ ?_ | rfl | exact fun _ h => h | exact .inl rfl | exact none_some | exact .inr in4 | fail)))
          all_goals first | exact leK_refl _ (idf_sc _) | exact leK_refl _ (idf_val _) | trace_state
        · intro _; conv => whnf
          (iterate 3 ((all_goals try (conv => whnf)); (repeat' first | exact ⟨⟩ | refine And.intro ?_ ?_ | rfl | exact fun _ h => h | exact .inl rfl | exact none_some | exact .inr in4 | fail)))
        intro x; conv => whnf
        refine call_same (full_ok y) rfl ?_
        conv => whnf
        repeat' ((first | refine RegP.enter ?_ | refine DrawP.range (by kernel_rfl) ?_ | refine BuildP.frz ⟨rfl, ?_⟩ | refine BoxP.row ?_ | refine And.intro (Nat.succ_pos _) ?_ | fail); conv => whnf)
        refine ⟨⟨(q + 1, fullM y, k2), hlt, hb2.2, hia⟩, (by show l.length - (q + 1) < l.length - q; omega), Sub.of_check [((0,0,0), .old true (0,0,0)), ((1,6,0), .old true (1,6,0)), ((1,8,0), .old true (1,8,0))] ?_ (by repeat' first | exact Gen0.emp | exact Gen0.ofH rfl | refine Gen0.put ?_ (by decide) | refine Gen0.put0 ?_ ⟨_, rfl⟩)⟩
        conv => whnf
        (iterate 3 ((all_goals try (conv => whnf)); (repeat' first | exact ⟨⟩ | refine And.intro ?_ ?_ | rfl | exact fun _ h => h | exact .inl rfl | exact none_some | exact .inr in4 | fail)))
        all_goals first | exact leK_refl _ (idf_sc _) | exact wrap_succ hlt (le_of_mul (k := 79) hRl) | trace_state
    have hge : q = l.length := by
      have : ¬ q < l.length := by simpa using hl
      have : q ≤ l.length := hq
      omega
    have hia : withinM sum kk = r := by
      rw [← hia]
      show _ = redP ev doc s body (l.drop q) sum kk
      rw [hge, List.drop_length]; rfl
    try rw [hl]
    conv => whnf
    repeat' ((first | refine RegP.enter ?_ | refine DrawP.range (by kernel_rfl) ?_ | refine BuildP.frz ⟨rfl, ?_⟩ | refine BoxP.row ?_ | refine And.intro (Nat.succ_pos _) ?_ | fail); conv => whnf)
    unfold withinM at hia
    by_cases hw : 65536 < sum.sz
    · rw [decide_eq_true hw] at hia
      subst hia
      refine call_mm [] 1 59 (within_no _ hw) ?_ ?_ ?_
      · conv => whnf
        (iterate 3 ((all_goals try (conv => whnf)); (repeat' first | exact ⟨⟩ | refine And.intro ?_ ?_ | rfl | exact fun _ h => h | exact .inl rfl | exact none_some | exact .inr in4 | fail)))
      · intro _; conv => whnf
        (iterate 3 ((all_goals try (conv => whnf)); (repeat' first | exact ⟨⟩ | refine And.intro ?_ ?_ | rfl | exact fun _ h => h | exact .inl rfl | exact none_some | exact .inr in4 | fail)))
      intro x; conv => whnf
      refine ⟨(), _, rfl, Sub.of_check [((0,0,0), .old true (0,0,0))] ?_ (by repeat' first | exact Gen0.emp | exact Gen0.ofH rfl | refine Gen0.put ?_ (by decide) | refine Gen0.put0 ?_ ⟨_, rfl⟩)⟩
      conv => whnf
      (iterate 3 ((all_goals try (conv => whnf)); (repeat' first | exact ⟨⟩ | refine And.intro ?_ ?_ | rfl | exact fun _ h => h | exact .inl rfl | exact none_some | exact .inr in4 | fail)))
    · rw [decide_eq_false hw] at hia
      subst hia
      refine call_mm [] 1 59 (within_yes _ hw) ?_ ?_ ?_
      · conv => whnf
        (iterate 3 ((all_goals try (conv => whnf)); (repeat' first | exact ⟨⟩ | refine And.intro ?_ ?_ | rfl | exact fun _ h => h | exact .inl rfl | exact none_some | exact .inr in4 | fail)))
      · intro _; conv => whnf
        (iterate 3 ((all_goals try (conv => whnf)); (repeat' first | exact ⟨⟩ | refine And.intro ?_ ?_ | rfl | exact fun _ h => h | exact .inl rfl | exact none_some | exact .inr in4 | fail)))
      intro x; conv => whnf
      repeat' ((first | refine RegP.enter ?_ | refine DrawP.range (by kernel_rfl) ?_ | refine BuildP.frz ⟨rfl, ?_⟩ | refine BoxP.row ?_ | refine And.intro (Nat.succ_pos _) ?_ | fail); conv => whnf)
      refine ⟨(), _, rfl, Sub.of_check [((0,0,0), .old true (0,0,0))] ?_ (by repeat' first | exact Gen0.emp | exact Gen0.ofH rfl | refine Gen0.put ?_ (by decide) | refine Gen0.put0 ?_ ⟨_, rfl⟩)⟩
      conv => whnf
      (iterate 3 ((all_goals try (conv => whnf)); (repeat' first | exact ⟨⟩ | refine And.intro ?_ ?_ | rfl | exact fun _ h => h | exact .inl rfl | exact none_some | exact .inr in4 | fail)))
end Go.Eng

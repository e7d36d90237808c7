/- Eng19: an engine for the program's code, and walks of its functions (Wn Wo Wp). -/
import Derived.Test.YtlcepambcoobgaaGreatDoorEng18
import Derived.Test.YtlcepambcoobgaaGreatDoorEng12
namespace Go.Eng
open Go.Proofs
set_option maxRecDepth 10000
theorem fail_ok (e : Int) : MSpec cxA 240 [.int e] [] (fun _ : Unit => .pan (stopAV e)) (fun _ => []) := by
  refine MSpec.of_WC cxA_ok Tryz.func240 rfl Tryz.call240 (Nat.le_of_ble_eq_true rfl) (g := 1) ?_
  conv => whnf
  repeat' first | (refine RegP.enter ?_; conv => whnf) | (refine DrawP.range (by kernel_rfl) ?_; conv => whnf) | (refine BuildP.frz ⟨rfl, ?_⟩; conv => whnf) | (refine BoxP.row ?_; conv => whnf) | (refine And.intro Nat.zero_lt_one ?_; conv => whnf) | (refine And.intro (Nat.succ_pos _) ?_; conv => whnf) | fail
  refine ⟨(), _, rfl, Sub.of_check [] ?_ (by repeat' first | exact Gen0.emp | exact Gen0.ofH rfl | refine Gen0.put ?_ (by decide) | refine Gen0.put0 ?_ ⟨_, rfl⟩)⟩
  conv => whnf
  (iterate 3 ((all_goals try (conv => whnf)); (repeat' first | exact True.intro | (refine And.intro ?_ ?_) | rfl | exact fun _ h => h | exact .inl rfl | exact none_some | exact .inr ⟨rfl, rfl, fun _ _ => rfl⟩ | exact .inr ⟨rfl, rfl, lt1 rfl⟩ | exact .inr ⟨rfl, rfl, lt2 rfl rfl⟩ | exact .inr ⟨rfl, rfl, lt3 rfl rfl rfl⟩ | fail)))
theorem step_no (doc : GV) (k : Int) (h : 20000 ≤ k) : MSpec cxA 187 [.ptr (0,0,0) 0 0] [((0,0,0), runRow doc k)] (fun _ : Unit => .pan (stopAV 54)) (fun _ => [((0,0,0), runRow doc k)]) := by
  refine MSpec.of_WC cxA_ok Tryz.func187 rfl Tryz.call187 (Nat.le_of_ble_eq_true rfl) (g := 1) ?_
  conv => whnf
  repeat' first | (refine RegP.enter ?_; conv => whnf) | (refine DrawP.range (by kernel_rfl) ?_; conv => whnf) | (refine BuildP.frz ⟨rfl, ?_⟩; conv => whnf) | (refine BoxP.row ?_; conv => whnf) | (refine And.intro Nat.zero_lt_one ?_; conv => whnf) | (refine And.intro (Nat.succ_pos _) ?_; conv => whnf) | fail
  rw [show decide (k ≥ 20000) = true from decide_eq_true h]
  conv => whnf
  repeat' first | (refine RegP.enter ?_; conv => whnf) | (refine DrawP.range (by kernel_rfl) ?_; conv => whnf) | (refine BuildP.frz ⟨rfl, ?_⟩; conv => whnf) | (refine BoxP.row ?_; conv => whnf) | (refine And.intro Nat.zero_lt_one ?_; conv => whnf) | (refine And.intro (Nat.succ_pos _) ?_; conv => whnf) | fail
  refine call_mm [] 2 0 (fail_ok 54) ?_ ?_ ?_
  · conv => whnf
    (iterate 3 ((all_goals try (conv => whnf)); (repeat' first | exact True.intro | (refine And.intro ?_ ?_) | rfl | exact fun _ h => h | exact .inl rfl | exact none_some | exact .inr ⟨rfl, rfl, fun _ _ => rfl⟩ | exact .inr ⟨rfl, rfl, lt1 rfl⟩ | exact .inr ⟨rfl, rfl, lt2 rfl rfl⟩ | exact .inr ⟨rfl, rfl, lt3 rfl rfl rfl⟩ | fail)))
    all_goals trace_state
  · intro _; conv => whnf
    (iterate 3 ((all_goals try (conv => whnf)); (repeat' first | exact True.intro | (refine And.intro ?_ ?_) | rfl | exact fun _ h => h | exact .inl rfl | exact none_some | exact .inr ⟨rfl, rfl, fun _ _ => rfl⟩ | exact .inr ⟨rfl, rfl, lt1 rfl⟩ | exact .inr ⟨rfl, rfl, lt2 rfl rfl⟩ | exact .inr ⟨rfl, rfl, lt3 rfl rfl rfl⟩ | fail)))
  intro x; conv => whnf
  refine ⟨(), _, rfl, Sub.of_check [((0,0,0), .old true (0,0,0))] ?_ (by repeat' first | exact Gen0.emp | exact Gen0.ofH rfl | refine Gen0.put ?_ (by decide) | refine Gen0.put0 ?_ ⟨_, rfl⟩)⟩
  conv => whnf
  (iterate 3 ((all_goals try (conv => whnf)); (repeat' first | exact True.intro | (refine And.intro ?_ ?_) | rfl | exact fun _ h => h | exact .inl rfl | exact none_some | exact .inr ⟨rfl, rfl, fun _ _ => rfl⟩ | exact .inr ⟨rfl, rfl, lt1 rfl⟩ | exact .inr ⟨rfl, rfl, lt2 rfl rfl⟩ | exact .inr ⟨rfl, rfl, lt3 rfl rfl rfl⟩ | fail)))
theorem step_yes (doc : GV) (k : Int) (h0 : 0 ≤ k) (h : k < 20000) : MSpec cxA 187 [.ptr (0,0,0) 0 0] [((0,0,0), runRow doc k)] (fun _ : Unit => .ret (.tup [])) (fun _ => [((0,0,0), runRow doc (k + 1))]) := by
  refine MSpec.of_WC cxA_ok Tryz.func187 rfl Tryz.call187 (Nat.le_of_ble_eq_true rfl) (g := 1) ?_
  conv => whnf
  repeat' first | (refine RegP.enter ?_; conv => whnf) | (refine DrawP.range (by kernel_rfl) ?_; conv => whnf) | (refine BuildP.frz ⟨rfl, ?_⟩; conv => whnf) | (refine BoxP.row ?_; conv => whnf) | (refine And.intro Nat.zero_lt_one ?_; conv => whnf) | (refine And.intro (Nat.succ_pos _) ?_; conv => whnf) | fail
  rw [show decide (k ≥ 20000) = false from decide_eq_false (by omega)]
  conv => whnf
  repeat' first | (refine RegP.enter ?_; conv => whnf) | (refine DrawP.range (by kernel_rfl) ?_; conv => whnf) | (refine BuildP.frz ⟨rfl, ?_⟩; conv => whnf) | (refine BoxP.row ?_; conv => whnf) | (refine And.intro Nat.zero_lt_one ?_; conv => whnf) | (refine And.intro (Nat.succ_pos _) ?_; conv => whnf) | fail
  refine ⟨(), _, rfl, Sub.of_check [((0,0,0), .old true (0,0,0))] ?_ (by repeat' first | exact Gen0.emp | exact Gen0.ofH rfl | refine Gen0.put ?_ (by decide) | refine Gen0.put0 ?_ ⟨_, rfl⟩)⟩
  conv => whnf
  (iterate 3 ((all_goals try (conv => whnf)); (repeat' first | exact True.intro | (refine And.intro ?_ ?_) | rfl | exact fun _ h => h | exact .inl rfl | exact none_some | exact .inr ⟨rfl, rfl, fun _ _ => rfl⟩ | exact .inr ⟨rfl, rfl, lt1 rfl⟩ | exact .inr ⟨rfl, rfl, lt2 rfl rfl⟩ | exact .inr ⟨rfl, rfl, lt3 rfl rfl rfl⟩ | fail)))
  all_goals exact wrap64 (by omega) (by omega)
theorem full_ok (g : GV) : PSpec cxA 384 [.agg g.cells] (.ret (.agg (fullM g).cells)) := by
  generalize hr : fullM g = r
  unfold fullM at hr
  refine PSpec.of_WC cxA_ok Tryz.func384 rfl Tryz.call384 (Nat.le_of_ble_eq_true rfl) (g := 1) ?_
  conv => whnf
  repeat' first | (refine RegP.enter ?_; conv => whnf) | (refine DrawP.range (by kernel_rfl) ?_; conv => whnf) | (refine BuildP.frz ⟨rfl, ?_⟩; conv => whnf) | (refine BoxP.row ?_; conv => whnf) | (refine And.intro Nat.zero_lt_one ?_; conv => whnf) | (refine And.intro (Nat.succ_pos _) ?_; conv => whnf) | fail
  cases h : (g.kind == 0)
  · have : decide (g.kind = 0) = false := by simpa using h
    simp only [this] at hr
    subst hr
    conv => whnf
    repeat' first | (refine RegP.enter ?_; conv => whnf) | (refine DrawP.range (by kernel_rfl) ?_; conv => whnf) | (refine BuildP.frz ⟨rfl, ?_⟩; conv => whnf) | (refine BoxP.row ?_; conv => whnf) | (refine And.intro Nat.zero_lt_one ?_; conv => whnf) | (refine And.intro (Nat.succ_pos _) ?_; conv => whnf) | fail
    refine Ent.of_check ?_ rfl
    conv => whnf
    (iterate 3 ((all_goals try (conv => whnf)); (repeat' first | exact True.intro | (refine And.intro ?_ ?_) | rfl | exact fun _ h => h | exact .inl rfl | exact none_some | exact .inr ⟨rfl, rfl, fun _ _ => rfl⟩ | exact .inr ⟨rfl, rfl, lt1 rfl⟩ | exact .inr ⟨rfl, rfl, lt2 rfl rfl⟩ | exact .inr ⟨rfl, rfl, lt3 rfl rfl rfl⟩ | fail)))
  · have : decide (g.kind = 0) = true := by simpa using h
    simp only [this] at hr
    subst hr
    conv => whnf
    repeat' first | (refine RegP.enter ?_; conv => whnf) | (refine DrawP.range (by kernel_rfl) ?_; conv => whnf) | (refine BuildP.frz ⟨rfl, ?_⟩; conv => whnf) | (refine BoxP.row ?_; conv => whnf) | (refine And.intro Nat.zero_lt_one ?_; conv => whnf) | (refine And.intro (Nat.succ_pos _) ?_; conv => whnf) | fail
    refine Ent.of_check ?_ rfl
    conv => whnf
    (iterate 3 ((all_goals try (conv => whnf)); (repeat' first | exact True.intro | (refine And.intro ?_ ?_) | rfl | exact fun _ h => h | exact .inl rfl | exact none_some | exact .inr ⟨rfl, rfl, fun _ _ => rfl⟩ | exact .inr ⟨rfl, rfl, lt1 rfl⟩ | exact .inr ⟨rfl, rfl, lt2 rfl rfl⟩ | exact .inr ⟨rfl, rfl, lt3 rfl rfl rfl⟩ | fail)))
theorem newPile_ok : MSpec cxA 382 [.int 6] [] (fun _ : Unit => .ret (.ptr (1,0,0) 0 0)) (fun _ => [((1,0,0), pileRow 0 (1,1,0) 65531), ((1,1,0), .cells 5 80 [])]) := by
  refine MSpec.of_WC cxA_ok Tryz.func382 rfl Tryz.call382 (Nat.le_of_ble_eq_true rfl) (g := 1) ?_
  conv => whnf
  repeat' first | (refine RegP.enter ?_; conv => whnf) | (refine DrawP.range (by kernel_rfl) ?_; conv => whnf) | (refine BuildP.frz ⟨rfl, ?_⟩; conv => whnf) | (refine BoxP.row ?_; conv => whnf) | (refine And.intro Nat.zero_lt_one ?_; conv => whnf) | (refine And.intro (Nat.succ_pos _) ?_; conv => whnf) | fail
  refine ⟨(), _, rfl, Sub.of_check [((1,0,0), .old true (1,6,0)), ((1,1,0), .new 5 80)] ?_ (by repeat' first | exact Gen0.emp | exact Gen0.ofH rfl | refine Gen0.put ?_ (by decide) | refine Gen0.put0 ?_ ⟨_, rfl⟩)⟩
  conv => whnf
  (iterate 3 ((all_goals try (conv => whnf)); (repeat' first | exact True.intro | (refine And.intro ?_ ?_) | rfl | exact fun _ h => h | exact .inl rfl | exact none_some | exact .inr ⟨rfl, rfl, fun _ _ => rfl⟩ | exact .inr ⟨rfl, rfl, lt1 rfl⟩ | exact .inr ⟨rfl, rfl, lt2 rfl rfl⟩ | exact .inr ⟨rfl, rfl, lt3 rfl rfl rfl⟩ | fail)))
theorem ptake_yes (l : List GV) (room n : Int) (h1 : -1000000 ≤ room - n) (h2 : room - n ≤ 1000000) (h : 0 ≤ room - n) : MSpec cxA 385 [.ptr (0,0,0) 0 0, .int n] (PL l room) (fun _ : Unit => .ret (.tup [])) (fun _ => PL l (room - n)) := by
  refine MSpec.of_WC cxA_ok Tryz.func385 rfl Tryz.call385 (Nat.le_of_ble_eq_true rfl) (g := 1) ?_
  conv => whnf
  repeat' first | (refine RegP.enter ?_; conv => whnf) | (refine DrawP.range (by kernel_rfl) ?_; conv => whnf) | (refine BuildP.frz ⟨rfl, ?_⟩; conv => whnf) | (refine BoxP.row ?_; conv => whnf) | (refine And.intro Nat.zero_lt_one ?_; conv => whnf) | (refine And.intro (Nat.succ_pos _) ?_; conv => whnf) | fail
  rw [show IntKind.i64.wrap (room - n) = room - n from wrap64 (by omega) (by omega), show decide (room - n < 0) = false from decide_eq_false (by omega)]
  conv => whnf
  repeat' first | (refine RegP.enter ?_; conv => whnf) | (refine DrawP.range (by kernel_rfl) ?_; conv => whnf) | (refine BuildP.frz ⟨rfl, ?_⟩; conv => whnf) | (refine BoxP.row ?_; conv => whnf) | (refine And.intro Nat.zero_lt_one ?_; conv => whnf) | (refine And.intro (Nat.succ_pos _) ?_; conv => whnf) | fail
  refine ⟨(), _, rfl, Sub.of_check [((0,0,0), .old true (0,0,0)), ((0,1,0), .old false (0,1,0))] ?_ (by repeat' first | exact Gen0.emp | exact Gen0.ofH rfl | refine Gen0.put ?_ (by decide) | refine Gen0.put0 ?_ ⟨_, rfl⟩)⟩
  conv => whnf
  (iterate 3 ((all_goals try (conv => whnf)); (repeat' first | exact True.intro | (refine And.intro ?_ ?_) | rfl | exact fun _ h => h | exact .inl rfl | exact none_some | exact .inr ⟨rfl, rfl, fun _ _ => rfl⟩ | exact .inr ⟨rfl, rfl, lt1 rfl⟩ | exact .inr ⟨rfl, rfl, lt2 rfl rfl⟩ | exact .inr ⟨rfl, rfl, lt3 rfl rfl rfl⟩ | fail)))
  all_goals first | exact wrap64 (by omega) (by omega) | exact idfL_map idfL_cells _ | trace_state
theorem ptake_no (l : List GV) (room n : Int) (h1 : -1000000 ≤ room - n) (h2 : room - n ≤ 1000000) (h : room - n < 0) : MSpec cxA 385 [.ptr (0,0,0) 0 0, .int n] (PL l room) (fun _ : Unit => .pan (stopAV 3)) (fun _ => PL l (room - n)) := by
  refine MSpec.of_WC cxA_ok Tryz.func385 rfl Tryz.call385 (Nat.le_of_ble_eq_true rfl) (g := 1) ?_
  conv => whnf
  repeat' first | (refine RegP.enter ?_; conv => whnf) | (refine DrawP.range (by kernel_rfl) ?_; conv => whnf) | (refine BuildP.frz ⟨rfl, ?_⟩; conv => whnf) | (refine BoxP.row ?_; conv => whnf) | (refine And.intro Nat.zero_lt_one ?_; conv => whnf) | (refine And.intro (Nat.succ_pos _) ?_; conv => whnf) | fail
  rw [show IntKind.i64.wrap (room - n) = room - n from wrap64 (by omega) (by omega), show decide (room - n < 0) = true from decide_eq_true h]
  conv => whnf
  repeat' first | (refine RegP.enter ?_; conv => whnf) | (refine DrawP.range (by kernel_rfl) ?_; conv => whnf) | (refine BuildP.frz ⟨rfl, ?_⟩; conv => whnf) | (refine BoxP.row ?_; conv => whnf) | (refine And.intro Nat.zero_lt_one ?_; conv => whnf) | (refine And.intro (Nat.succ_pos _) ?_; conv => whnf) | fail
  refine call_mm [] 2 0 (fail_ok 3) ?_ ?_ ?_
  · conv => whnf
    (iterate 3 ((all_goals try (conv => whnf)); (repeat' first | exact True.intro | (refine And.intro ?_ ?_) | rfl | exact fun _ h => h | exact .inl rfl | exact none_some | exact .inr ⟨rfl, rfl, fun _ _ => rfl⟩ | exact .inr ⟨rfl, rfl, lt1 rfl⟩ | exact .inr ⟨rfl, rfl, lt2 rfl rfl⟩ | exact .inr ⟨rfl, rfl, lt3 rfl rfl rfl⟩ | fail)))
    all_goals trace_state
  · intro _; conv => whnf
    (iterate 3 ((all_goals try (conv => whnf)); (repeat' first | exact True.intro | (refine And.intro ?_ ?_) | rfl | exact fun _ h => h | exact .inl rfl | exact none_some | exact .inr ⟨rfl, rfl, fun _ _ => rfl⟩ | exact .inr ⟨rfl, rfl, lt1 rfl⟩ | exact .inr ⟨rfl, rfl, lt2 rfl rfl⟩ | exact .inr ⟨rfl, rfl, lt3 rfl rfl rfl⟩ | fail)))
  intro x; conv => whnf
  refine ⟨(), _, rfl, Sub.of_check [((0,0,0), .old true (0,0,0)), ((0,1,0), .old false (0,1,0))] ?_ (by repeat' first | exact Gen0.emp | exact Gen0.ofH rfl | refine Gen0.put ?_ (by decide) | refine Gen0.put0 ?_ ⟨_, rfl⟩)⟩
  conv => whnf
  (iterate 3 ((all_goals try (conv => whnf)); (repeat' first | exact True.intro | (refine And.intro ?_ ?_) | rfl | exact fun _ h => h | exact .inl rfl | exact none_some | exact .inr ⟨rfl, rfl, fun _ _ => rfl⟩ | exact .inr ⟨rfl, rfl, lt1 rfl⟩ | exact .inr ⟨rfl, rfl, lt2 rfl rfl⟩ | exact .inr ⟨rfl, rfl, lt3 rfl rfl rfl⟩ | fail)))
  all_goals first | exact wrap64 (by omega) (by omega) | exact idfL_map idfL_cells _ | trace_state
end Go.Eng
namespace Go.Eng
open Go.Proofs
set_option maxRecDepth 10000
mutual
theorem renAV_idf (m : Id → Id) : ∀ v : AV, idf v = true → renAV m v = v
  | .lit _, _ => rfl
  | .top, _ => rfl
  | .fsl .., _ => rfl
  | .fptr .., _ => rfl
  | .lz _, _ => rfl
  | .row .., h => by cases h
  | .ptr .., h => by cases h
  | .mref _, h => by cases h
  | .clo fn a b, h => by
    simp only [idf, Bool.and_eq_true] at h
    show AV.clo fn (renL m a) (renL m b) = _
    rw [renL_idf m a h.1, renL_idf m b h.2]
  | .ifc t v, h => by
    show AV.ifc t (renAV m v) = _
    rw [renAV_idf m v h]
  | .agg l, h => by
    show AV.agg (renL m l) = _
    rw [renL_idf m l h]
  | .tup l, h => by
    show AV.tup (renL m l) = _
    rw [renL_idf m l h]
theorem renL_idf (m : Id → Id) : ∀ l : List AV, idfL l = true → renL m l = l
  | [], _ => rfl
  | a :: l, h => by
    simp only [idfL, idf.idfL, Bool.and_eq_true] at h
    show renAV m a :: renL m l = _
    rw [renAV_idf m a h.1, renL_idf m l h.2]
end
theorem renLL_map {α : Type} {f : α → List AV} (hf : ∀ a, idfL (f a) = true) (m : Id → Id) (l : List α) : renLL m (l.map f) = l.map f := by
  rw [renLL_eq, List.map_map]
  exact List.map_congr_left fun a _ => renL_idf m _ (hf a)
theorem sizeM_lo (g : GV) : 0 ≤ sizeM g := by unfold sizeM; split <;> omega
theorem sizeM_hi (g : GV) : sizeM g ≤ 65537 := by unfold sizeM; split <;> omega
theorem get_snoc {α : Type} {l : List α} {a : α} {n : Nat} (h : l.length = n) : (l ++ [a])[n]? = some a := by
  subst h; simp
theorem set_snoc {α : Type} {l : List α} {a b : α} {n : Nat} (h : l.length = n) : (l ++ [a]).set n b = l ++ [b] := by
  subst h; simp
theorem pile_wrap (n : Nat) (hn : n ≤ 65536) (b : Int) (s0 : 0 ≤ b) (s1 : b ≤ 65537) : IntKind.i64.wrap (IntKind.i64.wrap (2 + (ByteArray.mk (Lib.itoa (n : Int)).toArray).size) + b) = 2 + (Lib.itoa (n : Int)).length + b := by
  have il := Lib.itoa_length_le (n : Int) (by omega) (by omega)
  show IntKind.i64.wrap (IntKind.i64.wrap (2 + ((Lib.itoa (n : Int)).toArray.size : Int)) + b) = _
  rw [List.size_toArray]
  rw [wrap64 (x := 2 + ((Lib.itoa (n : Int)).length : Int)) (by omega) (by omega), wrap64 (by omega) (by omega)]
theorem add_no (l : List GV) (g : GV) (room : Int) (h0 : 0 ≤ room) (h1 : room ≤ 65531) (hl : l.length ≤ 65536) (h : pileM l.length g room < 0) : MSpec cxA 383 [.ptr (0,0,0) 0 0, .agg g.cells] (PL l room) (fun _ : Unit => .pan (stopAV 3)) (fun _ => PL l (pileM l.length g room)) := by
  have il := Lib.itoa_length_le (l.length : Int) (by omega) (by omega)
  have s0 := sizeM_lo g
  have s1 := sizeM_hi g
  have hw := pile_wrap l.length hl (sizeM g) s0 s1
  refine MSpec.of_WC cxA_ok Tryz.func383 rfl Tryz.call383 (Nat.le_of_ble_eq_true rfl) (g := 1) ?_
  conv => whnf
  refine RegP.enter ?_
  conv => whnf
  refine BoxP.frz ⟨rfl, ?_⟩
  conv => whnf
  refine RegP.enter ?_
  conv => whnf
  refine DrawP.rangeQ (fun i => !(Nat.beq i 13)) (by kernel_rfl) ?_
  conv => whnf
  refine call_same (itoa_ok (l.length : Int) (by omega) (by omega)) rfl ?_
  conv => whnf
  repeat' first | (refine RegP.enter ?_; conv => whnf) | (refine DrawP.range (by kernel_rfl) ?_; conv => whnf) | (refine BuildP.frz ⟨rfl, ?_⟩; conv => whnf) | (refine BoxP.row ?_; conv => whnf) | (refine And.intro Nat.zero_lt_one ?_; conv => whnf) | (refine And.intro (Nat.succ_pos _) ?_; conv => whnf) | fail
  refine call_same (size_ok g) rfl ?_
  conv => whnf
  unfold pileM at h ⊢
  refine call_mm [((0,0,0), .old true (0,0,0)), ((0,1,0), .old false (0,1,0))] 1 17 (ptake_no l room (2 + (Lib.itoa (l.length : Int)).length + sizeM g) (by omega) (by omega) (by omega)) ?_ ?_ ?_
  · conv => whnf
    (iterate 3 ((all_goals try (conv => whnf)); (repeat' first | exact True.intro | (refine And.intro ?_ ?_) | rfl | exact fun _ h => h | exact .inl rfl | exact none_some | exact .inr ⟨rfl, rfl, fun _ _ => rfl⟩ | exact .inr ⟨rfl, rfl, lt1 rfl⟩ | exact .inr ⟨rfl, rfl, lt2 rfl rfl⟩ | exact .inr ⟨rfl, rfl, lt3 rfl rfl rfl⟩ | fail)))
    all_goals first | exact hw | exact idfL_map idfL_cells _
  · intro _; conv => whnf
    (iterate 3 ((all_goals try (conv => whnf)); (repeat' first | exact True.intro | (refine And.intro ?_ ?_) | rfl | exact fun _ h => h | exact .inl rfl | exact none_some | exact .inr ⟨rfl, rfl, fun _ _ => rfl⟩ | exact .inr ⟨rfl, rfl, lt1 rfl⟩ | exact .inr ⟨rfl, rfl, lt2 rfl rfl⟩ | exact .inr ⟨rfl, rfl, lt3 rfl rfl rfl⟩ | fail)))
  intro x; conv => whnf
  refine ⟨(), _, rfl, Sub.of_check [((0,0,0), .old true (0,0,0)), ((0,1,0), .old false (0,1,0))] ?_ (by repeat' first | exact Gen0.emp | exact Gen0.ofH rfl | refine Gen0.put ?_ (by decide) | refine Gen0.put0 ?_ ⟨_, rfl⟩)⟩
  conv => whnf
  (iterate 3 ((all_goals try (conv => whnf)); (repeat' first | exact True.intro | (refine And.intro ?_ ?_) | rfl | exact fun _ h => h | exact .inl rfl | exact none_some | exact .inr ⟨rfl, rfl, fun _ _ => rfl⟩ | exact .inr ⟨rfl, rfl, lt1 rfl⟩ | exact .inr ⟨rfl, rfl, lt2 rfl rfl⟩ | exact .inr ⟨rfl, rfl, lt3 rfl rfl rfl⟩ | fail)))
  all_goals first | exact renLL_map idfL_cells _ _ | exact idfL_map idfL_cells _
theorem add_yes (l : List GV) (g : GV) (room : Int) (h0 : 0 ≤ room) (h1 : room ≤ 65531) (hl : l.length ≤ 65536) (h : 0 ≤ pileM l.length g room) : MSpec cxA 383 [.ptr (0,0,0) 0 0, .agg g.cells] (PL l room) (fun _ : Unit => .ret (.tup [])) (fun _ => [((0,0,0), pileRow (l.length + 1) (1,1,0) (pileM l.length g room)), ((0,1,0), .dead), ((1,1,0), .cells 5 80 ((l ++ [g]).map GV.cells))]) := by
  have il := Lib.itoa_length_le (l.length : Int) (by omega) (by omega)
  have s0 := sizeM_lo g
  have s1 := sizeM_hi g
  have hw := pile_wrap l.length hl (sizeM g) s0 s1
  refine MSpec.of_WC cxA_ok Tryz.func383 rfl Tryz.call383 (Nat.le_of_ble_eq_true rfl) (g := 1) ?_
  conv => whnf
  refine RegP.enter ?_
  conv => whnf
  refine BoxP.frz ⟨rfl, ?_⟩
  conv => whnf
  refine RegP.enter ?_
  conv => whnf
  refine DrawP.rangeQ (fun i => !(Nat.beq i 13)) (by kernel_rfl) ?_
  conv => whnf
  refine call_same (itoa_ok (l.length : Int) (by omega) (by omega)) rfl ?_
  conv => whnf
  repeat' first | (refine RegP.enter ?_; conv => whnf) | (refine DrawP.range (by kernel_rfl) ?_; conv => whnf) | (refine BuildP.frz ⟨rfl, ?_⟩; conv => whnf) | (refine BoxP.row ?_; conv => whnf) | (refine And.intro Nat.zero_lt_one ?_; conv => whnf) | (refine And.intro (Nat.succ_pos _) ?_; conv => whnf) | fail
  refine call_same (size_ok g) rfl ?_
  conv => whnf
  unfold pileM at h ⊢
  refine call_mm [((0,0,0), .old true (0,0,0)), ((0,1,0), .old false (0,1,0))] 1 17 (ptake_yes l room (2 + (Lib.itoa (l.length : Int)).length + sizeM g) (by omega) (by omega) (by omega)) ?_ ?_ ?_
  · conv => whnf
    (iterate 3 ((all_goals try (conv => whnf)); (repeat' first | exact True.intro | (refine And.intro ?_ ?_) | rfl | exact fun _ h => h | exact .inl rfl | exact none_some | exact .inr ⟨rfl, rfl, fun _ _ => rfl⟩ | exact .inr ⟨rfl, rfl, lt1 rfl⟩ | exact .inr ⟨rfl, rfl, lt2 rfl rfl⟩ | exact .inr ⟨rfl, rfl, lt3 rfl rfl rfl⟩ | fail)))
    all_goals first | exact hw | exact idfL_map idfL_cells _
  · intro _; conv => whnf
    (iterate 3 ((all_goals try (conv => whnf)); (repeat' first | exact True.intro | (refine And.intro ?_ ?_) | rfl | exact fun _ h => h | exact .inl rfl | exact none_some | exact .inr ⟨rfl, rfl, fun _ _ => rfl⟩ | exact .inr ⟨rfl, rfl, lt1 rfl⟩ | exact .inr ⟨rfl, rfl, lt2 rfl rfl⟩ | exact .inr ⟨rfl, rfl, lt3 rfl rfl rfl⟩ | fail)))
  intro x; conv => whnf
  refine RegP.enter ?_
  conv => whnf
  refine DrawP.ord ⟨fun i => !(Nat.beq i 5 || Nat.beq i 9 || Nat.beq i 10 || Nat.beq i 14), [0, 1, 2, 3, 4, 5, 6, 7, 8, 11, 12, 13, 9, 10, 14], by kernel_rfl, ?_⟩
  conv => whnf
  repeat' first | (refine RegP.enter ?_; conv => whnf) | (refine DrawP.range (by kernel_rfl) ?_; conv => whnf) | (refine BuildP.frz ⟨rfl, ?_⟩; conv => whnf) | (refine BoxP.row ?_; conv => whnf) | (refine And.intro Nat.zero_lt_one ?_; conv => whnf) | (refine And.intro (Nat.succ_pos _) ?_; conv => whnf) | fail
  refine And.intro (⟨trivial, trivial⟩) ?_
  conv => whnf
  refine And.intro (Nat.zero_lt_one) ?_
  conv => whnf
  refine BuildP.row ?_
  conv => whnf
  refine AppP.grow ⟨⟨by rw [renLL_map idfL_cells]; simp, by simp only [R]; omega⟩, ?_⟩
  conv => whnf
  repeat' first | (refine RegP.enter ?_; conv => whnf) | (refine DrawP.range (by kernel_rfl) ?_; conv => whnf) | (refine BuildP.frz ⟨rfl, ?_⟩; conv => whnf) | (refine BoxP.row ?_; conv => whnf) | (refine And.intro Nat.zero_lt_one ?_; conv => whnf) | (refine And.intro (Nat.succ_pos _) ?_; conv => whnf) | fail
  refine And.intro (⟨rfl, trivial, trivial⟩) ?_
  conv => whnf
  refine And.intro (Nat.lt_succ_self _) ?_
  conv => whnf
  refine And.intro (rfl) ?_
  conv => whnf
  repeat' first | (refine RegP.enter ?_; conv => whnf) | (refine DrawP.range (by kernel_rfl) ?_; conv => whnf) | (refine BuildP.frz ⟨rfl, ?_⟩; conv => whnf) | (refine BoxP.row ?_; conv => whnf) | (refine And.intro Nat.zero_lt_one ?_; conv => whnf) | (refine And.intro (Nat.succ_pos _) ?_; conv => whnf) | fail
  rw [renLL_map idfL_cells, List.drop_zero, List.take_of_length_le (by simp), get_snoc (by simp)]
  conv => whnf
  split
  · rename_i heq
    have hnil : l = [] := by
      have := congrArg List.length heq
      simp at this
      exact this
    subst hnil
    conv => whnf
    repeat' first | (refine RegP.enter ?_; conv => whnf) | (refine DrawP.range (by kernel_rfl) ?_; conv => whnf) | (refine BuildP.frz ⟨rfl, ?_⟩; conv => whnf) | (refine BoxP.row ?_; conv => whnf) | (refine And.intro Nat.zero_lt_one ?_; conv => whnf) | (refine And.intro (Nat.succ_pos _) ?_; conv => whnf) | fail
    refine And.intro (rfl) ?_
    conv => whnf
    repeat' first | (refine RegP.enter ?_; conv => whnf) | (refine DrawP.range (by kernel_rfl) ?_; conv => whnf) | (refine BuildP.frz ⟨rfl, ?_⟩; conv => whnf) | (refine BoxP.row ?_; conv => whnf) | (refine And.intro Nat.zero_lt_one ?_; conv => whnf) | (refine And.intro (Nat.succ_pos _) ?_; conv => whnf) | fail
    refine ⟨(), _, rfl, Sub.of_check [((0,0,0), .old true (0,0,0)), ((0,1,0), .old false (0,1,0)), ((1,1,0), .old false (1,26,0))] ?_ (by repeat' first | exact Gen0.emp | exact Gen0.ofH rfl | refine Gen0.put ?_ (by decide) | refine Gen0.put0 ?_ ⟨_, rfl⟩)⟩
    conv => whnf
    (iterate 3 ((all_goals try (conv => whnf)); (repeat' first | exact True.intro | (refine And.intro ?_ ?_) | rfl | exact fun _ h => h | exact .inl rfl | exact none_some | exact .inr ⟨rfl, rfl, fun _ _ => rfl⟩ | exact .inr ⟨rfl, rfl, lt1 rfl⟩ | exact .inr ⟨rfl, rfl, lt2 rfl rfl⟩ | exact .inr ⟨rfl, rfl, lt3 rfl rfl rfl⟩ | fail)))
    all_goals first | exact idfL_map idfL_cells _ | (rw [set_snoc (by simp), List.map_append]; rfl)
  · conv => whnf
    repeat' first | (refine RegP.enter ?_; conv => whnf) | (refine DrawP.range (by kernel_rfl) ?_; conv => whnf) | (refine BuildP.frz ⟨rfl, ?_⟩; conv => whnf) | (refine BoxP.row ?_; conv => whnf) | (refine And.intro Nat.zero_lt_one ?_; conv => whnf) | (refine And.intro (Nat.succ_pos _) ?_; conv => whnf) | fail
    refine And.intro (rfl) ?_
    conv => whnf
    repeat' first | (refine RegP.enter ?_; conv => whnf) | (refine DrawP.range (by kernel_rfl) ?_; conv => whnf) | (refine BuildP.frz ⟨rfl, ?_⟩; conv => whnf) | (refine BoxP.row ?_; conv => whnf) | (refine And.intro Nat.zero_lt_one ?_; conv => whnf) | (refine And.intro (Nat.succ_pos _) ?_; conv => whnf) | fail
    refine ⟨(), _, rfl, Sub.of_check [((0,0,0), .old true (0,0,0)), ((0,1,0), .old false (0,1,0)), ((1,1,0), .old false (1,26,0))] ?_ (by repeat' first | exact Gen0.emp | exact Gen0.ofH rfl | refine Gen0.put ?_ (by decide) | refine Gen0.put0 ?_ ⟨_, rfl⟩)⟩
    conv => whnf
    (iterate 3 ((all_goals try (conv => whnf)); (repeat' first | exact True.intro | (refine And.intro ?_ ?_) | rfl | exact fun _ h => h | exact .inl rfl | exact none_some | exact .inr ⟨rfl, rfl, fun _ _ => rfl⟩ | exact .inr ⟨rfl, rfl, lt1 rfl⟩ | exact .inr ⟨rfl, rfl, lt2 rfl rfl⟩ | exact .inr ⟨rfl, rfl, lt3 rfl rfl rfl⟩ | fail)))
    all_goals first | exact idfL_map idfL_cells _ | (rw [set_snoc (by simp), List.map_append]; rfl)
end Go.Eng
namespace Go.Eng
open Go.Proofs
set_option maxRecDepth 10000
/-- The method of an expression. -/
def evFn : Nd → FuncId
  | .lit _ => 386
  | .con _ => 387
  | .fld _ => 380
  | .var _ _ => 378
  | .lst _ => 381
  | .docm _ => 445
  | .loop _ _ _ _ _ => 446
  | .call _ _ => 388
def EvOk (ev : Nd → GV → List (ByteArray × GV) → Int → Rs GV) : Prop :=
  ∀ x doc s k, StepOk k → RsSpec (evFn x) [x.val, .ptr (0,0,0) 0 0, scAV s] doc k (ev x doc s k) ∧ RsBd k (ev x doc s k)
theorem lit_ok (g doc : GV) (s : List (ByteArray × GV)) (k : Int) : RsSpec 386 [.agg g.cells, .ptr (0,0,0) 0 0, scAV s] doc k (.ok g k) := by
  refine MSpec.of_WC cxA_ok Tryz.func386 rfl Tryz.call386 (Nat.le_of_ble_eq_true rfl) (g := 1) ?_
  conv => whnf
  repeat' first | (refine RegP.enter ?_; conv => whnf) | (refine DrawP.range (by kernel_rfl) ?_; conv => whnf) | (refine BuildP.frz ⟨rfl, ?_⟩; conv => whnf) | (refine BoxP.row ?_; conv => whnf) | (refine And.intro Nat.zero_lt_one ?_; conv => whnf) | (refine And.intro (Nat.succ_pos _) ?_; conv => whnf) | fail
  refine ⟨(), _, rfl, Sub.of_check [((0,0,0), .old true (0,0,0))] ?_ (by repeat' first | exact Gen0.emp | exact Gen0.ofH rfl | refine Gen0.put ?_ (by decide) | refine Gen0.put0 ?_ ⟨_, rfl⟩)⟩
  conv => whnf
  (iterate 3 ((all_goals try (conv => whnf)); (repeat' first | exact True.intro | (refine And.intro ?_ ?_) | rfl | exact fun _ h => h | exact .inl rfl | exact none_some | exact .inr ⟨rfl, rfl, fun _ _ => rfl⟩ | exact .inr ⟨rfl, rfl, lt1 rfl⟩ | exact .inr ⟨rfl, rfl, lt2 rfl rfl⟩ | exact .inr ⟨rfl, rfl, lt3 rfl rfl rfl⟩ | fail)))
theorem con_ok (g doc : GV) (s : List (ByteArray × GV)) (k : Int) : RsSpec 387 [.agg g.cells, .ptr (0,0,0) 0 0, scAV s] doc k (.ok g k) := by
  refine MSpec.of_WC cxA_ok Tryz.func387 rfl Tryz.call387 (Nat.le_of_ble_eq_true rfl) (g := 1) ?_
  conv => whnf
  repeat' first | (refine RegP.enter ?_; conv => whnf) | (refine DrawP.range (by kernel_rfl) ?_; conv => whnf) | (refine BuildP.frz ⟨rfl, ?_⟩; conv => whnf) | (refine BoxP.row ?_; conv => whnf) | (refine And.intro Nat.zero_lt_one ?_; conv => whnf) | (refine And.intro (Nat.succ_pos _) ?_; conv => whnf) | fail
  refine ⟨(), _, rfl, Sub.of_check [((0,0,0), .old true (0,0,0))] ?_ (by repeat' first | exact Gen0.emp | exact Gen0.ofH rfl | refine Gen0.put ?_ (by decide) | refine Gen0.put0 ?_ ⟨_, rfl⟩)⟩
  conv => whnf
  (iterate 3 ((all_goals try (conv => whnf)); (repeat' first | exact True.intro | (refine And.intro ?_ ?_) | rfl | exact fun _ h => h | exact .inl rfl | exact none_some | exact .inr ⟨rfl, rfl, fun _ _ => rfl⟩ | exact .inr ⟨rfl, rfl, lt1 rfl⟩ | exact .inr ⟨rfl, rfl, lt2 rfl rfl⟩ | exact .inr ⟨rfl, rfl, lt3 rfl rfl rfl⟩ | fail)))
theorem pick_ok (ps : List ByteArray) (g : GV) : PSpec cxA 379 [.agg g.cells, .lz (.gs ps)] (.ret (.agg (pickM ps g).cells)) := pick_spec _ g (Nat.lt_succ_self _) ps
theorem fld_ok (ps : List ByteArray) (doc : GV) (s : List (ByteArray × GV)) (k : Int) : RsSpec 380 [.lz (.gs ps), .ptr (0,0,0) 0 0, scAV s] doc k (.ok (pickM ps doc) k) := by
  refine MSpec.of_WC cxA_ok Tryz.func380 rfl Tryz.call380 (Nat.le_of_ble_eq_true rfl) (g := 1) ?_
  conv => whnf
  repeat' first | (refine RegP.enter ?_; conv => whnf) | (refine DrawP.range (by kernel_rfl) ?_; conv => whnf) | (refine BuildP.frz ⟨rfl, ?_⟩; conv => whnf) | (refine BoxP.row ?_; conv => whnf) | (refine And.intro Nat.zero_lt_one ?_; conv => whnf) | (refine And.intro (Nat.succ_pos _) ?_; conv => whnf) | (refine call_same (pick_ok ps doc) rfl ?_; conv => whnf) | fail
  refine ⟨(), _, rfl, Sub.of_check [((0,0,0), .old true (0,0,0))] ?_ (by repeat' first | exact Gen0.emp | exact Gen0.ofH rfl | refine Gen0.put ?_ (by decide) | refine Gen0.put0 ?_ ⟨_, rfl⟩)⟩
  conv => whnf
  (iterate 3 ((all_goals try (conv => whnf)); (repeat' first | exact True.intro | (refine And.intro ?_ ?_) | rfl | exact fun _ h => h | exact .inl rfl | exact none_some | exact .inr ⟨rfl, rfl, fun _ _ => rfl⟩ | exact .inr ⟨rfl, rfl, lt1 rfl⟩ | exact .inr ⟨rfl, rfl, lt2 rfl rfl⟩ | exact .inr ⟨rfl, rfl, lt3 rfl rfl rfl⟩ | fail)))
theorem var_ok (n : ByteArray) (ps : List ByteArray) (doc : GV) (s : List (ByteArray × GV)) (k : Int) : RsSpec 378 [.agg [.str n, .lz (.gs ps)], .ptr (0,0,0) 0 0, scAV s] doc k (.ok (pickM ps (match lookS n s with | some g => g | none => doc)) k) := by
  generalize hr : pickM ps (match lookS n s with | some g => g | none => doc) = r
  refine MSpec.of_WC cxA_ok Tryz.func378 rfl Tryz.call378 (Nat.le_of_ble_eq_true rfl) (g := 1) ?_
  conv => whnf
  refine RegP.enter ?_
  conv => whnf
  refine BoxP.frz ⟨rfl, ?_⟩
  conv => whnf
  repeat' first | (refine RegP.enter ?_; conv => whnf) | (refine DrawP.range (by kernel_rfl) ?_; conv => whnf) | (refine BuildP.frz ⟨rfl, ?_⟩; conv => whnf) | (refine BoxP.row ?_; conv => whnf) | (refine And.intro Nat.zero_lt_one ?_; conv => whnf) | (refine And.intro (Nat.succ_pos _) ?_; conv => whnf) | fail
  refine ⟨2, {q : List (ByteArray × GV) // pickM ps (match lookS n q with | some g => g | none => doc) = r}, fun i => ([(1, .ptr (0,0,0) 0 0), (2, scAV i.1), (3, .fptr 2 1 (fun _ => [.str n, .lz (.gs ps)]) 0 0), (6, .ptr (1,6,0) 0 0)], [((0,0,0), runRow doc k), ((1,6,0), .cells 5 80 [[.int 0, .int 0, .str ⟨#[]⟩, .nil, .nil]])]), fun i => i.1.length, ⟨⟨s, hr⟩, Sub.of_check [((0,0,0), .old true (0,0,0)), ((1,6,0), .old true (1,6,0))] ?_ (by repeat' first | exact Gen0.emp | exact Gen0.ofH rfl | refine Gen0.put ?_ (by decide) | refine Gen0.put0 ?_ ⟨_, rfl⟩)⟩, fun ⟨q, hq⟩ => ?_⟩
  · conv => whnf
    (iterate 3 ((all_goals try (conv => whnf)); (repeat' first | exact True.intro | (refine And.intro ?_ ?_) | rfl | exact fun _ h => h | exact .inl rfl | exact none_some | exact .inr ⟨rfl, rfl, fun _ _ => rfl⟩ | exact .inr ⟨rfl, rfl, lt1 rfl⟩ | exact .inr ⟨rfl, rfl, lt2 rfl rfl⟩ | exact .inr ⟨rfl, rfl, lt3 rfl rfl rfl⟩ | fail)))
    all_goals exact leK_refl _ (idf_sc _)
  conv => whnf
  cases q with
  | nil =>
    replace hq : pickM ps doc = r := hq
    subst hq
    repeat' first | (refine RegP.enter ?_; conv => whnf) | (refine DrawP.range (by kernel_rfl) ?_; conv => whnf) | (refine BuildP.frz ⟨rfl, ?_⟩; conv => whnf) | (refine BoxP.row ?_; conv => whnf) | (refine And.intro Nat.zero_lt_one ?_; conv => whnf) | (refine And.intro (Nat.succ_pos _) ?_; conv => whnf) | (refine call_same (pick_ok ps doc) rfl ?_; conv => whnf) | fail
    refine ⟨(), _, rfl, Sub.of_check [((0,0,0), .old true (0,0,0))] ?_ (by repeat' first | exact Gen0.emp | exact Gen0.ofH rfl | refine Gen0.put ?_ (by decide) | refine Gen0.put0 ?_ ⟨_, rfl⟩)⟩
    conv => whnf
    (iterate 3 ((all_goals try (conv => whnf)); (repeat' first | exact True.intro | (refine And.intro ?_ ?_) | rfl | exact fun _ h => h | exact .inl rfl | exact none_some | exact .inr ⟨rfl, rfl, fun _ _ => rfl⟩ | exact .inr ⟨rfl, rfl, lt1 rfl⟩ | exact .inr ⟨rfl, rfl, lt2 rfl rfl⟩ | exact .inr ⟨rfl, rfl, lt3 rfl rfl rfl⟩ | fail)))
  | cons f q =>
    obtain ⟨m, v⟩ := f
    repeat' first | (refine RegP.enter ?_; conv => whnf) | (refine DrawP.range (by kernel_rfl) ?_; conv => whnf) | (refine BuildP.frz ⟨rfl, ?_⟩; conv => whnf) | (refine BoxP.row ?_; conv => whnf) | (refine And.intro Nat.zero_lt_one ?_; conv => whnf) | (refine And.intro (Nat.succ_pos _) ?_; conv => whnf) | fail
    unfold lookS at hq
    cases hm : decide (m = n)
    · rw [hm] at hq
      conv => whnf
      repeat' first | (refine RegP.enter ?_; conv => whnf) | (refine DrawP.range (by kernel_rfl) ?_; conv => whnf) | (refine BuildP.frz ⟨rfl, ?_⟩; conv => whnf) | (refine BoxP.row ?_; conv => whnf) | (refine And.intro Nat.zero_lt_one ?_; conv => whnf) | (refine And.intro (Nat.succ_pos _) ?_; conv => whnf) | fail
      refine ⟨⟨q, hq⟩, (by simp), Sub.of_check [((0,0,0), .old true (0,0,0)), ((1,6,0), .old true (1,6,0))] ?_ (by repeat' first | exact Gen0.emp | exact Gen0.ofH rfl | refine Gen0.put ?_ (by decide) | refine Gen0.put0 ?_ ⟨_, rfl⟩)⟩
      conv => whnf
      (iterate 3 ((all_goals try (conv => whnf)); (repeat' first | exact True.intro | (refine And.intro ?_ ?_) | rfl | exact fun _ h => h | exact .inl rfl | exact none_some | exact .inr ⟨rfl, rfl, fun _ _ => rfl⟩ | exact .inr ⟨rfl, rfl, lt1 rfl⟩ | exact .inr ⟨rfl, rfl, lt2 rfl rfl⟩ | exact .inr ⟨rfl, rfl, lt3 rfl rfl rfl⟩ | fail)))
      all_goals exact leK_refl _ (idf_sc _)
    · rw [hm] at hq
      replace hq : pickM ps v = r := hq
      subst hq
      conv => whnf
      repeat' first | (refine RegP.enter ?_; conv => whnf) | (refine DrawP.range (by kernel_rfl) ?_; conv => whnf) | (refine BuildP.frz ⟨rfl, ?_⟩; conv => whnf) | (refine BoxP.row ?_; conv => whnf) | (refine And.intro Nat.zero_lt_one ?_; conv => whnf) | (refine And.intro (Nat.succ_pos _) ?_; conv => whnf) | (refine call_same (pick_ok ps v) rfl ?_; conv => whnf) | fail
      refine ⟨(), _, rfl, Sub.of_check [((0,0,0), .old true (0,0,0))] ?_ (by repeat' first | exact Gen0.emp | exact Gen0.ofH rfl | refine Gen0.put ?_ (by decide) | refine Gen0.put0 ?_ ⟨_, rfl⟩)⟩
      conv => whnf
      (iterate 3 ((all_goals try (conv => whnf)); (repeat' first | exact True.intro | (refine And.intro ?_ ?_) | rfl | exact fun _ h => h | exact .inl rfl | exact none_some | exact .inr ⟨rfl, rfl, fun _ _ => rfl⟩ | exact .inr ⟨rfl, rfl, lt1 rfl⟩ | exact .inr ⟨rfl, rfl, lt2 rfl rfl⟩ | exact .inr ⟨rfl, rfl, lt3 rfl rfl rfl⟩ | fail)))
end Go.Eng

/- Dates1: an engine for the program's code, and walks of its functions (Dc Dd). -/
import Derived.Test.YtlcepambcoobgaaGreatDoorDates0
import Derived.Test.YtlcepambcoobgaaGreatDoorEng26
namespace Go.Eng
open Go.Proofs
set_option maxRecDepth 10000
theorem want10_ok (g : GV) (hg : g.kind = 10) : PSpec cxA 404 [.int 10, .lz (.gl [g])] (.ret (.tup [])) := by
  refine PSpec.of_WC cxA_ok Tryz.func404 rfl Tryz.call404 (Nat.le_of_ble_eq_true rfl) (g := 1) ?_
  conv => whnf
  repeat' first | (refine RegP.enter ?_; conv => whnf) | (refine DrawP.range (by kernel_rfl) ?_; conv => whnf) | (refine BuildP.frz ⟨rfl, ?_⟩; conv => whnf) | (refine BoxP.row ?_; conv => whnf) | (refine And.intro Nat.zero_lt_one ?_; conv => whnf) | (refine And.intro (Nat.succ_pos _) ?_; conv => whnf) | fail
  refine ⟨2, {i : Nat // i ≤ [g].length}, fun i => ([(0, .int 10), (6, .lz (.gl [g])), (7, .int [g].length), (8, .int i.1)], []), fun i => [g].length - i.1, ⟨⟨0, Nat.zero_le _⟩, Sub.of_check [] ?_ (by repeat' first | exact Gen0.emp | exact Gen0.ofH rfl | refine Gen0.put ?_ (by decide) | refine Gen0.put0 ?_ ⟨_, rfl⟩)⟩, fun ⟨i, hi⟩ => ?_⟩
  · conv => whnf
    (iterate 3 ((all_goals try (conv => whnf)); (repeat' first | exact True.intro | (refine And.intro ?_ ?_) | rfl | exact fun _ h => h | exact .inl rfl | exact none_some | exact .inr ⟨rfl, rfl, fun _ _ => rfl⟩ | exact .inr ⟨rfl, rfl, lt1 rfl⟩ | exact .inr ⟨rfl, rfl, lt2 rfl rfl⟩ | exact .inr ⟨rfl, rfl, lt3 rfl rfl rfl⟩ | fail)))
  conv => whnf
  refine RegP.go fun hf => ?_
  conv => whnf
  refine br (fun hl1 => ?_) (fun hl1 => ?_)
  rotate_left
  · try rw [hl1]
    conv => whnf
    repeat' first | (refine RegP.enter ?_; conv => whnf) | (refine DrawP.range (by kernel_rfl) ?_; conv => whnf) | (refine BuildP.frz ⟨rfl, ?_⟩; conv => whnf) | (refine BoxP.row ?_; conv => whnf) | (refine And.intro Nat.zero_lt_one ?_; conv => whnf) | (refine And.intro (Nat.succ_pos _) ?_; conv => whnf) | fail
    refine Ent.of_check ?_ rfl
    conv => whnf
    (iterate 3 ((all_goals try (conv => whnf)); (repeat' first | exact True.intro | (refine And.intro ?_ ?_) | rfl | exact fun _ h => h | exact .inl rfl | exact none_some | exact .inr ⟨rfl, rfl, fun _ _ => rfl⟩ | exact .inr ⟨rfl, rfl, lt1 rfl⟩ | exact .inr ⟨rfl, rfl, lt2 rfl rfl⟩ | exact .inr ⟨rfl, rfl, lt3 rfl rfl rfl⟩ | fail)))
  have hlt : i < [g].length := Int.ofNat_lt.1 (of_decide_eq_true hl1)
  have hR := le_of_mul (k := 79) (hf.lz 6 _ _ _ _ _ _ rfl rfl)
  have hk : ([g].getD i default).kind = 10 := by
    have h1 : i = 0 := by have : i < 1 := hlt; omega
    subst h1; exact hg
  try rw [hl1]
  conv => whnf
  repeat' first | (refine RegP.enter ?_; conv => whnf) | (refine DrawP.range (by kernel_rfl) ?_; conv => whnf) | (refine BuildP.frz ⟨rfl, ?_⟩; conv => whnf) | (refine BoxP.row ?_; conv => whnf) | (refine And.intro Nat.zero_lt_one ?_; conv => whnf) | (refine And.intro (Nat.succ_pos _) ?_; conv => whnf) | fail
  refine And.intro (hlt) ?_
  conv => whnf
  refine And.intro (hlt) ?_
  conv => whnf
  repeat' first | (refine RegP.enter ?_; conv => whnf) | (refine DrawP.range (by kernel_rfl) ?_; conv => whnf) | (refine BuildP.frz ⟨rfl, ?_⟩; conv => whnf) | (refine BoxP.row ?_; conv => whnf) | (refine And.intro Nat.zero_lt_one ?_; conv => whnf) | (refine And.intro (Nat.succ_pos _) ?_; conv => whnf) | fail
  rw [hk]
  conv => whnf
  repeat' first | (refine RegP.enter ?_; conv => whnf) | (refine DrawP.range (by kernel_rfl) ?_; conv => whnf) | (refine BuildP.frz ⟨rfl, ?_⟩; conv => whnf) | (refine BoxP.row ?_; conv => whnf) | (refine And.intro Nat.zero_lt_one ?_; conv => whnf) | (refine And.intro (Nat.succ_pos _) ?_; conv => whnf) | fail
  refine ⟨⟨i + 1, hlt⟩, (by show [g].length - (i + 1) < [g].length - i; omega), Sub.of_check [] ?_ (by repeat' first | exact Gen0.emp | exact Gen0.ofH rfl | refine Gen0.put ?_ (by decide) | refine Gen0.put0 ?_ ⟨_, rfl⟩)⟩
  conv => whnf
  (iterate 3 ((all_goals try (conv => whnf)); (repeat' first | exact True.intro | (refine And.intro ?_ ?_) | rfl | exact fun _ h => h | exact .inl rfl | exact none_some | exact .inr ⟨rfl, rfl, fun _ _ => rfl⟩ | exact .inr ⟨rfl, rfl, lt1 rfl⟩ | exact .inr ⟨rfl, rfl, lt2 rfl rfl⟩ | exact .inr ⟨rfl, rfl, lt3 rfl rfl rfl⟩ | fail)))
  all_goals exact wrap_succ hlt hR
theorem loose_oHour (l : List GV) : PSpec cxA 393 [.str oHour, .lz (.gl l)] (.ret (.tup [.agg gZero.cells, .bool false])) := by
  refine PSpec.of_WC cxA_ok Tryz.func393 rfl Tryz.call393 (Nat.le_of_ble_eq_true rfl) (g := 1) ?_
  conv => whnf
  refine RegP.enter ?_
  conv => whnf
  refine BoxP.frz ⟨rfl, ?_⟩
  conv => whnf
  repeat' first | (refine RegP.enter ?_; conv => whnf) | (refine DrawP.range (by kernel_rfl) ?_; conv => whnf) | (refine BuildP.frz ⟨rfl, ?_⟩; conv => whnf) | (refine BoxP.row ?_; conv => whnf) | (refine And.intro Nat.zero_lt_one ?_; conv => whnf) | (refine And.intro (Nat.succ_pos _) ?_; conv => whnf) | fail
  refine Ent.of_check ?_ rfl
  conv => whnf
  (iterate 3 ((all_goals try (conv => whnf)); (repeat' first | exact True.intro | (refine And.intro ?_ ?_) | rfl | exact fun _ h => h | exact .inl rfl | exact none_some | exact .inr ⟨rfl, rfl, fun _ _ => rfl⟩ | exact .inr ⟨rfl, rfl, lt1 rfl⟩ | exact .inr ⟨rfl, rfl, lt2 rfl rfl⟩ | exact .inr ⟨rfl, rfl, lt3 rfl rfl rfl⟩ | fail)))
theorem strict_oHour (g : GV) (hg : g.kind = 10) (hi : inInt g.int = true) (doc : GV) (k : Int) : RsSpec 395 [.ptr (0,0,0) 0 0, .str oHour, .lz (.gl [g])] doc k (.ok (gInt (hourM g.int)) k) := by
  have hw := want10_ok g hg
  have hd := date_hour g.int hi
  generalize hourM g.int = r at *
  refine MSpec.of_WC cxA_ok Tryz.func395 rfl Tryz.call395 (Nat.le_of_ble_eq_true rfl) (g := 1) ?_
  conv => whnf
  repeat' first | (refine RegP.enter ?_; conv => whnf) | (refine DrawP.range (by kernel_rfl) ?_; conv => whnf) | (refine BuildP.frz ⟨rfl, ?_⟩; conv => whnf) | (refine BoxP.row ?_; conv => whnf) | (refine And.intro Nat.zero_lt_one ?_; conv => whnf) | (refine And.intro (Nat.succ_pos _) ?_; conv => whnf) | (refine call_same (hw) rfl ?_; conv => whnf) | (refine call_same (hd) rfl ?_; conv => whnf) | (refine call_same (number_ok r) rfl ?_; conv => whnf) | (refine And.intro (by first | decide | assumption | omega | (simp; done) | (simp; omega)) ?_; conv => whnf) | fail
  refine ⟨(), _, rfl, Sub.of_check [((0,0,0), .old true (0,0,0))] ?_ (by repeat' first | exact Gen0.emp | exact Gen0.ofH rfl | refine Gen0.put ?_ (by decide) | refine Gen0.put0 ?_ ⟨_, rfl⟩)⟩
  conv => whnf
  (iterate 3 ((all_goals try (conv => whnf)); (repeat' first | exact True.intro | (refine And.intro ?_ ?_) | rfl | exact fun _ h => h | exact .inl rfl | exact none_some | exact .inr ⟨rfl, rfl, fun _ _ => rfl⟩ | exact .inr ⟨rfl, rfl, lt1 rfl⟩ | exact .inr ⟨rfl, rfl, lt2 rfl rfl⟩ | exact .inr ⟨rfl, rfl, lt3 rfl rfl rfl⟩ | fail)))
theorem loose_oMinute (l : List GV) : PSpec cxA 393 [.str oMinute, .lz (.gl l)] (.ret (.tup [.agg gZero.cells, .bool false])) := by
  refine PSpec.of_WC cxA_ok Tryz.func393 rfl Tryz.call393 (Nat.le_of_ble_eq_true rfl) (g := 1) ?_
  conv => whnf
  refine RegP.enter ?_
  conv => whnf
  refine BoxP.frz ⟨rfl, ?_⟩
  conv => whnf
  repeat' first | (refine RegP.enter ?_; conv => whnf) | (refine DrawP.range (by kernel_rfl) ?_; conv => whnf) | (refine BuildP.frz ⟨rfl, ?_⟩; conv => whnf) | (refine BoxP.row ?_; conv => whnf) | (refine And.intro Nat.zero_lt_one ?_; conv => whnf) | (refine And.intro (Nat.succ_pos _) ?_; conv => whnf) | fail
  refine Ent.of_check ?_ rfl
  conv => whnf
  (iterate 3 ((all_goals try (conv => whnf)); (repeat' first | exact True.intro | (refine And.intro ?_ ?_) | rfl | exact fun _ h => h | exact .inl rfl | exact none_some | exact .inr ⟨rfl, rfl, fun _ _ => rfl⟩ | exact .inr ⟨rfl, rfl, lt1 rfl⟩ | exact .inr ⟨rfl, rfl, lt2 rfl rfl⟩ | exact .inr ⟨rfl, rfl, lt3 rfl rfl rfl⟩ | fail)))
theorem strict_oMinute (g : GV) (hg : g.kind = 10) (hi : inInt g.int = true) (doc : GV) (k : Int) : RsSpec 395 [.ptr (0,0,0) 0 0, .str oMinute, .lz (.gl [g])] doc k (.ok (gInt (minuteM g.int)) k) := by
  have hw := want10_ok g hg
  have hd := date_minute g.int hi
  generalize minuteM g.int = r at *
  refine MSpec.of_WC cxA_ok Tryz.func395 rfl Tryz.call395 (Nat.le_of_ble_eq_true rfl) (g := 1) ?_
  conv => whnf
  repeat' first | (refine RegP.enter ?_; conv => whnf) | (refine DrawP.range (by kernel_rfl) ?_; conv => whnf) | (refine BuildP.frz ⟨rfl, ?_⟩; conv => whnf) | (refine BoxP.row ?_; conv => whnf) | (refine And.intro Nat.zero_lt_one ?_; conv => whnf) | (refine And.intro (Nat.succ_pos _) ?_; conv => whnf) | (refine call_same (hw) rfl ?_; conv => whnf) | (refine call_same (hd) rfl ?_; conv => whnf) | (refine call_same (number_ok r) rfl ?_; conv => whnf) | (refine And.intro (by first | decide | assumption | omega | (simp; done) | (simp; omega)) ?_; conv => whnf) | fail
  refine ⟨(), _, rfl, Sub.of_check [((0,0,0), .old true (0,0,0))] ?_ (by repeat' first | exact Gen0.emp | exact Gen0.ofH rfl | refine Gen0.put ?_ (by decide) | refine Gen0.put0 ?_ ⟨_, rfl⟩)⟩
  conv => whnf
  (iterate 3 ((all_goals try (conv => whnf)); (repeat' first | exact True.intro | (refine And.intro ?_ ?_) | rfl | exact fun _ h => h | exact .inl rfl | exact none_some | exact .inr ⟨rfl, rfl, fun _ _ => rfl⟩ | exact .inr ⟨rfl, rfl, lt1 rfl⟩ | exact .inr ⟨rfl, rfl, lt2 rfl rfl⟩ | exact .inr ⟨rfl, rfl, lt3 rfl rfl rfl⟩ | fail)))
theorem loose_oSecond (l : List GV) : PSpec cxA 393 [.str oSecond, .lz (.gl l)] (.ret (.tup [.agg gZero.cells, .bool false])) := by
  refine PSpec.of_WC cxA_ok Tryz.func393 rfl Tryz.call393 (Nat.le_of_ble_eq_true rfl) (g := 1) ?_
  conv => whnf
  refine RegP.enter ?_
  conv => whnf
  refine BoxP.frz ⟨rfl, ?_⟩
  conv => whnf
  repeat' first | (refine RegP.enter ?_; conv => whnf) | (refine DrawP.range (by kernel_rfl) ?_; conv => whnf) | (refine BuildP.frz ⟨rfl, ?_⟩; conv => whnf) | (refine BoxP.row ?_; conv => whnf) | (refine And.intro Nat.zero_lt_one ?_; conv => whnf) | (refine And.intro (Nat.succ_pos _) ?_; conv => whnf) | fail
  refine Ent.of_check ?_ rfl
  conv => whnf
  (iterate 3 ((all_goals try (conv => whnf)); (repeat' first | exact True.intro | (refine And.intro ?_ ?_) | rfl | exact fun _ h => h | exact .inl rfl | exact none_some | exact .inr ⟨rfl, rfl, fun _ _ => rfl⟩ | exact .inr ⟨rfl, rfl, lt1 rfl⟩ | exact .inr ⟨rfl, rfl, lt2 rfl rfl⟩ | exact .inr ⟨rfl, rfl, lt3 rfl rfl rfl⟩ | fail)))
theorem strict_oSecond (g : GV) (hg : g.kind = 10) (hi : inInt g.int = true) (doc : GV) (k : Int) : RsSpec 395 [.ptr (0,0,0) 0 0, .str oSecond, .lz (.gl [g])] doc k (.ok (gInt (secondM g.int)) k) := by
  have hw := want10_ok g hg
  have hd := date_second g.int hi
  generalize secondM g.int = r at *
  refine MSpec.of_WC cxA_ok Tryz.func395 rfl Tryz.call395 (Nat.le_of_ble_eq_true rfl) (g := 1) ?_
  conv => whnf
  repeat' first | (refine RegP.enter ?_; conv => whnf) | (refine DrawP.range (by kernel_rfl) ?_; conv => whnf) | (refine BuildP.frz ⟨rfl, ?_⟩; conv => whnf) | (refine BoxP.row ?_; conv => whnf) | (refine And.intro Nat.zero_lt_one ?_; conv => whnf) | (refine And.intro (Nat.succ_pos _) ?_; conv => whnf) | (refine call_same (hw) rfl ?_; conv => whnf) | (refine call_same (hd) rfl ?_; conv => whnf) | (refine call_same (number_ok r) rfl ?_; conv => whnf) | (refine And.intro (by first | decide | assumption | omega | (simp; done) | (simp; omega)) ?_; conv => whnf) | fail
  refine ⟨(), _, rfl, Sub.of_check [((0,0,0), .old true (0,0,0))] ?_ (by repeat' first | exact Gen0.emp | exact Gen0.ofH rfl | refine Gen0.put ?_ (by decide) | refine Gen0.put0 ?_ ⟨_, rfl⟩)⟩
  conv => whnf
  (iterate 3 ((all_goals try (conv => whnf)); (repeat' first | exact True.intro | (refine And.intro ?_ ?_) | rfl | exact fun _ h => h | exact .inl rfl | exact none_some | exact .inr ⟨rfl, rfl, fun _ _ => rfl⟩ | exact .inr ⟨rfl, rfl, lt1 rfl⟩ | exact .inr ⟨rfl, rfl, lt2 rfl rfl⟩ | exact .inr ⟨rfl, rfl, lt3 rfl rfl rfl⟩ | fail)))
theorem loose_oMilli (l : List GV) : PSpec cxA 393 [.str oMilli, .lz (.gl l)] (.ret (.tup [.agg gZero.cells, .bool false])) := by
  refine PSpec.of_WC cxA_ok Tryz.func393 rfl Tryz.call393 (Nat.le_of_ble_eq_true rfl) (g := 1) ?_
  conv => whnf
  refine RegP.enter ?_
  conv => whnf
  refine BoxP.frz ⟨rfl, ?_⟩
  conv => whnf
  repeat' first | (refine RegP.enter ?_; conv => whnf) | (refine DrawP.range (by kernel_rfl) ?_; conv => whnf) | (refine BuildP.frz ⟨rfl, ?_⟩; conv => whnf) | (refine BoxP.row ?_; conv => whnf) | (refine And.intro Nat.zero_lt_one ?_; conv => whnf) | (refine And.intro (Nat.succ_pos _) ?_; conv => whnf) | fail
  refine Ent.of_check ?_ rfl
  conv => whnf
  (iterate 3 ((all_goals try (conv => whnf)); (repeat' first | exact True.intro | (refine And.intro ?_ ?_) | rfl | exact fun _ h => h | exact .inl rfl | exact none_some | exact .inr ⟨rfl, rfl, fun _ _ => rfl⟩ | exact .inr ⟨rfl, rfl, lt1 rfl⟩ | exact .inr ⟨rfl, rfl, lt2 rfl rfl⟩ | exact .inr ⟨rfl, rfl, lt3 rfl rfl rfl⟩ | fail)))
theorem strict_oMilli (g : GV) (hg : g.kind = 10) (hi : inInt g.int = true) (doc : GV) (k : Int) : RsSpec 395 [.ptr (0,0,0) 0 0, .str oMilli, .lz (.gl [g])] doc k (.ok (gInt (milliM g.int)) k) := by
  have hw := want10_ok g hg
  have hd := date_milli g.int hi
  generalize milliM g.int = r at *
  refine MSpec.of_WC cxA_ok Tryz.func395 rfl Tryz.call395 (Nat.le_of_ble_eq_true rfl) (g := 1) ?_
  conv => whnf
  repeat' first | (refine RegP.enter ?_; conv => whnf) | (refine DrawP.range (by kernel_rfl) ?_; conv => whnf) | (refine BuildP.frz ⟨rfl, ?_⟩; conv => whnf) | (refine BoxP.row ?_; conv => whnf) | (refine And.intro Nat.zero_lt_one ?_; conv => whnf) | (refine And.intro (Nat.succ_pos _) ?_; conv => whnf) | (refine call_same (hw) rfl ?_; conv => whnf) | (refine call_same (hd) rfl ?_; conv => whnf) | (refine call_same (number_ok r) rfl ?_; conv => whnf) | (refine And.intro (by first | decide | assumption | omega | (simp; done) | (simp; omega)) ?_; conv => whnf) | fail
  refine ⟨(), _, rfl, Sub.of_check [((0,0,0), .old true (0,0,0))] ?_ (by repeat' first | exact Gen0.emp | exact Gen0.ofH rfl | refine Gen0.put ?_ (by decide) | refine Gen0.put0 ?_ ⟨_, rfl⟩)⟩
  conv => whnf
  (iterate 3 ((all_goals try (conv => whnf)); (repeat' first | exact True.intro | (refine And.intro ?_ ?_) | rfl | exact fun _ h => h | exact .inl rfl | exact none_some | exact .inr ⟨rfl, rfl, fun _ _ => rfl⟩ | exact .inr ⟨rfl, rfl, lt1 rfl⟩ | exact .inr ⟨rfl, rfl, lt2 rfl rfl⟩ | exact .inr ⟨rfl, rfl, lt3 rfl rfl rfl⟩ | fail)))
theorem loose_oWeekday (l : List GV) : PSpec cxA 393 [.str oWeekday, .lz (.gl l)] (.ret (.tup [.agg gZero.cells, .bool false])) := by
  refine PSpec.of_WC cxA_ok Tryz.func393 rfl Tryz.call393 (Nat.le_of_ble_eq_true rfl) (g := 1) ?_
  conv => whnf
  refine RegP.enter ?_
  conv => whnf
  refine BoxP.frz ⟨rfl, ?_⟩
  conv => whnf
  repeat' first | (refine RegP.enter ?_; conv => whnf) | (refine DrawP.range (by kernel_rfl) ?_; conv => whnf) | (refine BuildP.frz ⟨rfl, ?_⟩; conv => whnf) | (refine BoxP.row ?_; conv => whnf) | (refine And.intro Nat.zero_lt_one ?_; conv => whnf) | (refine And.intro (Nat.succ_pos _) ?_; conv => whnf) | fail
  refine Ent.of_check ?_ rfl
  conv => whnf
  (iterate 3 ((all_goals try (conv => whnf)); (repeat' first | exact True.intro | (refine And.intro ?_ ?_) | rfl | exact fun _ h => h | exact .inl rfl | exact none_some | exact .inr ⟨rfl, rfl, fun _ _ => rfl⟩ | exact .inr ⟨rfl, rfl, lt1 rfl⟩ | exact .inr ⟨rfl, rfl, lt2 rfl rfl⟩ | exact .inr ⟨rfl, rfl, lt3 rfl rfl rfl⟩ | fail)))
theorem strict_oWeekday (g : GV) (hg : g.kind = 10) (hi : inInt g.int = true) (doc : GV) (k : Int) : RsSpec 395 [.ptr (0,0,0) 0 0, .str oWeekday, .lz (.gl [g])] doc k (.ok (gInt (weekdayM g.int)) k) := by
  have hw := want10_ok g hg
  have hd := date_weekday g.int hi
  generalize weekdayM g.int = r at *
  refine MSpec.of_WC cxA_ok Tryz.func395 rfl Tryz.call395 (Nat.le_of_ble_eq_true rfl) (g := 1) ?_
  conv => whnf
  repeat' first | (refine RegP.enter ?_; conv => whnf) | (refine DrawP.range (by kernel_rfl) ?_; conv => whnf) | (refine BuildP.frz ⟨rfl, ?_⟩; conv => whnf) | (refine BoxP.row ?_; conv => whnf) | (refine And.intro Nat.zero_lt_one ?_; conv => whnf) | (refine And.intro (Nat.succ_pos _) ?_; conv => whnf) | (refine call_same (hw) rfl ?_; conv => whnf) | (refine call_same (hd) rfl ?_; conv => whnf) | (refine call_same (number_ok r) rfl ?_; conv => whnf) | (refine And.intro (by first | decide | assumption | omega | (simp; done) | (simp; omega)) ?_; conv => whnf) | fail
  refine ⟨(), _, rfl, Sub.of_check [((0,0,0), .old true (0,0,0))] ?_ (by repeat' first | exact Gen0.emp | exact Gen0.ofH rfl | refine Gen0.put ?_ (by decide) | refine Gen0.put0 ?_ ⟨_, rfl⟩)⟩
  conv => whnf
  (iterate 3 ((all_goals try (conv => whnf)); (repeat' first | exact True.intro | (refine And.intro ?_ ?_) | rfl | exact fun _ h => h | exact .inl rfl | exact none_some | exact .inr ⟨rfl, rfl, fun _ _ => rfl⟩ | exact .inr ⟨rfl, rfl, lt1 rfl⟩ | exact .inr ⟨rfl, rfl, lt2 rfl rfl⟩ | exact .inr ⟨rfl, rfl, lt3 rfl rfl rfl⟩ | fail)))
theorem loose_oYear (l : List GV) : PSpec cxA 393 [.str oYear, .lz (.gl l)] (.ret (.tup [.agg gZero.cells, .bool false])) := by
  refine PSpec.of_WC cxA_ok Tryz.func393 rfl Tryz.call393 (Nat.le_of_ble_eq_true rfl) (g := 1) ?_
  conv => whnf
  refine RegP.enter ?_
  conv => whnf
  refine BoxP.frz ⟨rfl, ?_⟩
  conv => whnf
  repeat' first | (refine RegP.enter ?_; conv => whnf) | (refine DrawP.range (by kernel_rfl) ?_; conv => whnf) | (refine BuildP.frz ⟨rfl, ?_⟩; conv => whnf) | (refine BoxP.row ?_; conv => whnf) | (refine And.intro Nat.zero_lt_one ?_; conv => whnf) | (refine And.intro (Nat.succ_pos _) ?_; conv => whnf) | fail
  refine Ent.of_check ?_ rfl
  conv => whnf
  (iterate 3 ((all_goals try (conv => whnf)); (repeat' first | exact True.intro | (refine And.intro ?_ ?_) | rfl | exact fun _ h => h | exact .inl rfl | exact none_some | exact .inr ⟨rfl, rfl, fun _ _ => rfl⟩ | exact .inr ⟨rfl, rfl, lt1 rfl⟩ | exact .inr ⟨rfl, rfl, lt2 rfl rfl⟩ | exact .inr ⟨rfl, rfl, lt3 rfl rfl rfl⟩ | fail)))
theorem strict_oYear (g : GV) (hg : g.kind = 10) (hi : inInt g.int = true) (doc : GV) (k : Int) : RsSpec 395 [.ptr (0,0,0) 0 0, .str oYear, .lz (.gl [g])] doc k (.ok (gInt (yearA g.int)) k) := by
  have hw := want10_ok g hg
  have hd := date_year g.int hi
  generalize yearA g.int = r at *
  refine MSpec.of_WC cxA_ok Tryz.func395 rfl Tryz.call395 (Nat.le_of_ble_eq_true rfl) (g := 1) ?_
  conv => whnf
  repeat' first | (refine RegP.enter ?_; conv => whnf) | (refine DrawP.range (by kernel_rfl) ?_; conv => whnf) | (refine BuildP.frz ⟨rfl, ?_⟩; conv => whnf) | (refine BoxP.row ?_; conv => whnf) | (refine And.intro Nat.zero_lt_one ?_; conv => whnf) | (refine And.intro (Nat.succ_pos _) ?_; conv => whnf) | (refine call_same (hw) rfl ?_; conv => whnf) | (refine call_same (hd) rfl ?_; conv => whnf) | (refine call_same (number_ok r) rfl ?_; conv => whnf) | (refine And.intro (by first | decide | assumption | omega | (simp; done) | (simp; omega)) ?_; conv => whnf) | fail
  refine ⟨(), _, rfl, Sub.of_check [((0,0,0), .old true (0,0,0))] ?_ (by repeat' first | exact Gen0.emp | exact Gen0.ofH rfl | refine Gen0.put ?_ (by decide) | refine Gen0.put0 ?_ ⟨_, rfl⟩)⟩
  conv => whnf
  (iterate 3 ((all_goals try (conv => whnf)); (repeat' first | exact True.intro | (refine And.intro ?_ ?_) | rfl | exact fun _ h => h | exact .inl rfl | exact none_some | exact .inr ⟨rfl, rfl, fun _ _ => rfl⟩ | exact .inr ⟨rfl, rfl, lt1 rfl⟩ | exact .inr ⟨rfl, rfl, lt2 rfl rfl⟩ | exact .inr ⟨rfl, rfl, lt3 rfl rfl rfl⟩ | fail)))
theorem loose_oMonth (l : List GV) : PSpec cxA 393 [.str oMonth, .lz (.gl l)] (.ret (.tup [.agg gZero.cells, .bool false])) := by
  refine PSpec.of_WC cxA_ok Tryz.func393 rfl Tryz.call393 (Nat.le_of_ble_eq_true rfl) (g := 1) ?_
  conv => whnf
  refine RegP.enter ?_
  conv => whnf
  refine BoxP.frz ⟨rfl, ?_⟩
  conv => whnf
  repeat' first | (refine RegP.enter ?_; conv => whnf) | (refine DrawP.range (by kernel_rfl) ?_; conv => whnf) | (refine BuildP.frz ⟨rfl, ?_⟩; conv => whnf) | (refine BoxP.row ?_; conv => whnf) | (refine And.intro Nat.zero_lt_one ?_; conv => whnf) | (refine And.intro (Nat.succ_pos _) ?_; conv => whnf) | fail
  refine Ent.of_check ?_ rfl
  conv => whnf
  (iterate 3 ((all_goals try (conv => whnf)); (repeat' first | exact True.intro | (refine And.intro ?_ ?_) | rfl | exact fun _ h => h | exact .inl rfl | exact none_some | exact .inr ⟨rfl, rfl, fun _ _ => rfl⟩ | exact .inr ⟨rfl, rfl, lt1 rfl⟩ | exact .inr ⟨rfl, rfl, lt2 rfl rfl⟩ | exact .inr ⟨rfl, rfl, lt3 rfl rfl rfl⟩ | fail)))
theorem strict_oMonth (g : GV) (hg : g.kind = 10) (hi : inInt g.int = true) (doc : GV) (k : Int) : RsSpec 395 [.ptr (0,0,0) 0 0, .str oMonth, .lz (.gl [g])] doc k (.ok (gInt (monthA g.int)) k) := by
  have hw := want10_ok g hg
  have hd := date_month g.int hi
  generalize monthA g.int = r at *
  refine MSpec.of_WC cxA_ok Tryz.func395 rfl Tryz.call395 (Nat.le_of_ble_eq_true rfl) (g := 1) ?_
  conv => whnf
  repeat' first | (refine RegP.enter ?_; conv => whnf) | (refine DrawP.range (by kernel_rfl) ?_; conv => whnf) | (refine BuildP.frz ⟨rfl, ?_⟩; conv => whnf) | (refine BoxP.row ?_; conv => whnf) | (refine And.intro Nat.zero_lt_one ?_; conv => whnf) | (refine And.intro (Nat.succ_pos _) ?_; conv => whnf) | (refine call_same (hw) rfl ?_; conv => whnf) | (refine call_same (hd) rfl ?_; conv => whnf) | (refine call_same (number_ok r) rfl ?_; conv => whnf) | (refine And.intro (by first | decide | assumption | omega | (simp; done) | (simp; omega)) ?_; conv => whnf) | fail
  refine ⟨(), _, rfl, Sub.of_check [((0,0,0), .old true (0,0,0))] ?_ (by repeat' first | exact Gen0.emp | exact Gen0.ofH rfl | refine Gen0.put ?_ (by decide) | refine Gen0.put0 ?_ ⟨_, rfl⟩)⟩
  conv => whnf
  (iterate 3 ((all_goals try (conv => whnf)); (repeat' first | exact True.intro | (refine And.intro ?_ ?_) | rfl | exact fun _ h => h | exact .inl rfl | exact none_some | exact .inr ⟨rfl, rfl, fun _ _ => rfl⟩ | exact .inr ⟨rfl, rfl, lt1 rfl⟩ | exact .inr ⟨rfl, rfl, lt2 rfl rfl⟩ | exact .inr ⟨rfl, rfl, lt3 rfl rfl rfl⟩ | fail)))
theorem loose_oDay (l : List GV) : PSpec cxA 393 [.str oDay, .lz (.gl l)] (.ret (.tup [.agg gZero.cells, .bool false])) := by
  refine PSpec.of_WC cxA_ok Tryz.func393 rfl Tryz.call393 (Nat.le_of_ble_eq_true rfl) (g := 1) ?_
  conv => whnf
  refine RegP.enter ?_
  conv => whnf
  refine BoxP.frz ⟨rfl, ?_⟩
  conv => whnf
  repeat' first | (refine RegP.enter ?_; conv => whnf) | (refine DrawP.range (by kernel_rfl) ?_; conv => whnf) | (refine BuildP.frz ⟨rfl, ?_⟩; conv => whnf) | (refine BoxP.row ?_; conv => whnf) | (refine And.intro Nat.zero_lt_one ?_; conv => whnf) | (refine And.intro (Nat.succ_pos _) ?_; conv => whnf) | fail
  refine Ent.of_check ?_ rfl
  conv => whnf
  (iterate 3 ((all_goals try (conv => whnf)); (repeat' first | exact True.intro | (refine And.intro ?_ ?_) | rfl | exact fun _ h => h | exact .inl rfl | exact none_some | exact .inr ⟨rfl, rfl, fun _ _ => rfl⟩ | exact .inr ⟨rfl, rfl, lt1 rfl⟩ | exact .inr ⟨rfl, rfl, lt2 rfl rfl⟩ | exact .inr ⟨rfl, rfl, lt3 rfl rfl rfl⟩ | fail)))
theorem strict_oDay (g : GV) (hg : g.kind = 10) (hi : inInt g.int = true) (doc : GV) (k : Int) : RsSpec 395 [.ptr (0,0,0) 0 0, .str oDay, .lz (.gl [g])] doc k (.ok (gInt (dayA g.int)) k) := by
  have hw := want10_ok g hg
  have hd := date_day g.int hi
  generalize dayA g.int = r at *
  refine MSpec.of_WC cxA_ok Tryz.func395 rfl Tryz.call395 (Nat.le_of_ble_eq_true rfl) (g := 1) ?_
  conv => whnf
  repeat' first | (refine RegP.enter ?_; conv => whnf) | (refine DrawP.range (by kernel_rfl) ?_; conv => whnf) | (refine BuildP.frz ⟨rfl, ?_⟩; conv => whnf) | (refine BoxP.row ?_; conv => whnf) | (refine And.intro Nat.zero_lt_one ?_; conv => whnf) | (refine And.intro (Nat.succ_pos _) ?_; conv => whnf) | (refine call_same (hw) rfl ?_; conv => whnf) | (refine call_same (hd) rfl ?_; conv => whnf) | (refine call_same (number_ok r) rfl ?_; conv => whnf) | (refine And.intro (by first | decide | assumption | omega | (simp; done) | (simp; omega)) ?_; conv => whnf) | fail
  refine ⟨(), _, rfl, Sub.of_check [((0,0,0), .old true (0,0,0))] ?_ (by repeat' first | exact Gen0.emp | exact Gen0.ofH rfl | refine Gen0.put ?_ (by decide) | refine Gen0.put0 ?_ ⟨_, rfl⟩)⟩
  conv => whnf
  (iterate 3 ((all_goals try (conv => whnf)); (repeat' first | exact True.intro | (refine And.intro ?_ ?_) | rfl | exact fun _ h => h | exact .inl rfl | exact none_some | exact .inr ⟨rfl, rfl, fun _ _ => rfl⟩ | exact .inr ⟨rfl, rfl, lt1 rfl⟩ | exact .inr ⟨rfl, rfl, lt2 rfl rfl⟩ | exact .inr ⟨rfl, rfl, lt3 rfl rfl rfl⟩ | fail)))
/-- The parts of a date. -/
def partD (op : ByteArray) (a : Int) : Option Int := match decide (op = oHour) with | true => some (hourM a) | false => match decide (op = oMinute) with | true => some (minuteM a) | false => match decide (op = oSecond) with | true => some (secondM a) | false => match decide (op = oMilli) with | true => some (milliM a) | false => match decide (op = oWeekday) with | true => some (weekdayM a) | false => match decide (op = oYear) with | true => some (yearA a) | false => match decide (op = oMonth) with | true => some (monthA a) | false => match decide (op = oDay) with | true => some (dayA a) | false => none
def looseD (op : ByteArray) (_ : List GV) : Lo := match partD op 0 with | some _ => .none | none => .unk
def strictD (op : ByteArray) (l : List GV) (k : Int) : Rs GV := match l with
  | [g] => match decide (g.kind = 10) && inInt g.int with
    | true => match partD op g.int with | some n => .ok (gInt n) k | none => .unk
    | false => .unk
  | _ => .unk
def OD : Ops := ⟨looseD, strictD⟩
theorem loOkD : LoOk OD := by
  intro op l
  show match looseD op l with | .unk => True | .some g => _ | .none => _
  unfold looseD partD
  cases hHour : decide (op = oHour) with
  | true => have := of_decide_eq_true hHour; subst this; exact loose_oHour l
  | false =>
  cases hMinute : decide (op = oMinute) with
  | true => have := of_decide_eq_true hMinute; subst this; exact loose_oMinute l
  | false =>
  cases hSecond : decide (op = oSecond) with
  | true => have := of_decide_eq_true hSecond; subst this; exact loose_oSecond l
  | false =>
  cases hMilli : decide (op = oMilli) with
  | true => have := of_decide_eq_true hMilli; subst this; exact loose_oMilli l
  | false =>
  cases hWeekday : decide (op = oWeekday) with
  | true => have := of_decide_eq_true hWeekday; subst this; exact loose_oWeekday l
  | false =>
  cases hYear : decide (op = oYear) with
  | true => have := of_decide_eq_true hYear; subst this; exact loose_oYear l
  | false =>
  cases hMonth : decide (op = oMonth) with
  | true => have := of_decide_eq_true hMonth; subst this; exact loose_oMonth l
  | false =>
  cases hDay : decide (op = oDay) with
  | true => have := of_decide_eq_true hDay; subst this; exact loose_oDay l
  | false =>
  trivial
theorem stOkD : StOk OD := by
  intro op l doc k hk
  show RsSpec 395 _ doc k (strictD op l k) ∧ RsBd k (strictD op l k)
  match l with
  | [] => exact ⟨trivial, trivial⟩
  | _ :: _ :: _ => exact ⟨trivial, trivial⟩
  | [g] =>
    unfold strictD
    simp only
    cases hg : decide (g.kind = 10) && inInt g.int with
    | false => exact ⟨trivial, trivial⟩
    | true =>
      obtain ⟨h1, h2⟩ := Bool.and_eq_true_iff.1 hg
      have h1 := of_decide_eq_true h1
      unfold partD
      cases hHour : decide (op = oHour) with
      | true => have := of_decide_eq_true hHour; subst this; exact ⟨strict_oHour g h1 h2 doc k, Int.le_refl k, hk⟩
      | false =>
      cases hMinute : decide (op = oMinute) with
      | true => have := of_decide_eq_true hMinute; subst this; exact ⟨strict_oMinute g h1 h2 doc k, Int.le_refl k, hk⟩
      | false =>
      cases hSecond : decide (op = oSecond) with
      | true => have := of_decide_eq_true hSecond; subst this; exact ⟨strict_oSecond g h1 h2 doc k, Int.le_refl k, hk⟩
      | false =>
      cases hMilli : decide (op = oMilli) with
      | true => have := of_decide_eq_true hMilli; subst this; exact ⟨strict_oMilli g h1 h2 doc k, Int.le_refl k, hk⟩
      | false =>
      cases hWeekday : decide (op = oWeekday) with
      | true => have := of_decide_eq_true hWeekday; subst this; exact ⟨strict_oWeekday g h1 h2 doc k, Int.le_refl k, hk⟩
      | false =>
      cases hYear : decide (op = oYear) with
      | true => have := of_decide_eq_true hYear; subst this; exact ⟨strict_oYear g h1 h2 doc k, Int.le_refl k, hk⟩
      | false =>
      cases hMonth : decide (op = oMonth) with
      | true => have := of_decide_eq_true hMonth; subst this; exact ⟨strict_oMonth g h1 h2 doc k, Int.le_refl k, hk⟩
      | false =>
      cases hDay : decide (op = oDay) with
      | true => have := of_decide_eq_true hDay; subst this; exact ⟨strict_oDay g h1 h2 doc k, Int.le_refl k, hk⟩
      | false =>
      exact ⟨trivial, trivial⟩
theorem evalD_ok (n : Nat) : EvOk (evalP OD n) := evalP_ok loOkD stOkD n
end Go.Eng
namespace Go.Eng
open Go.Proofs
set_option maxRecDepth 20000
def one (op : ByteArray) (a : Int) : Nd := .call op [.lit (gDate a)]
theorem sz_one {op : ByteArray} (ho : op.size ≤ 100) (a : Int) : (gCall op [gDate a]).sz ≤ 65536 := by
  have h0 := Lib.itoa_length_le ((0 : Nat) : Int) (by decide) (by decide)
  simp [gCall, gDoc, gList, gDate, GV.sz, szD, szL] at *
  omega
/-- What the law's 'date' answers. -/
theorem date_law {op : ByteArray} {a n : Int} (hc : rightM (gCall op [gDate a]) = 0) (hp : parseF 3 [] (gCall op [gDate a]) = .yes (one op a)) (he : ∃ k, stepF (evalP OD 2) (one op a) gZero [] 0 = .ok (gInt n) k) :
    PSpec cxA 34 [.str op, .int a] (.ret (.tup [.int n, .bool true])) := by
  obtain ⟨k, he⟩ := he
  have hw := work_yes (evalD_ok 2) (doc := gZero) hc hp (by rw [he]; simp)
  rw [he] at hw
  have hcall := call_ok op [gDate a]
  refine PSpec.of_WC cxA_ok Tryz.func34 rfl Tryz.call34 (Nat.le_of_ble_eq_true rfl) (g := 1) ?_
  conv => whnf
  repeat' first | (refine RegP.enter ?_; conv => whnf) | (refine DrawP.range (by kernel_rfl) ?_; conv => whnf) | (refine BuildP.frz ⟨rfl, ?_⟩; conv => whnf) | (refine BoxP.row ?_; conv => whnf) | (refine And.intro Nat.zero_lt_one ?_; conv => whnf) | (refine And.intro (Nat.succ_pos _) ?_; conv => whnf) | fail
  refine call_ent hcall ⟨EntS.same rfl, EntS.lz (EntS.fsl fun i hi => ?_), trivial⟩ ?_
  · match i, hi with
    | 0, _ => exact EntSL.cells0
  conv => whnf
  repeat' first | (refine RegP.enter ?_; conv => whnf) | (refine DrawP.range (by kernel_rfl) ?_; conv => whnf) | (refine BuildP.frz ⟨rfl, ?_⟩; conv => whnf) | (refine BoxP.row ?_; conv => whnf) | (refine And.intro Nat.zero_lt_one ?_; conv => whnf) | (refine And.intro (Nat.succ_pos _) ?_; conv => whnf) | fail
  refine call_le (hw) ?_ (by rfl) (by rfl) ?_
  · (iterate 3 ((all_goals try (conv => whnf)); (repeat' first | exact True.intro | (refine And.intro ?_ ?_) | rfl | exact fun _ h => h | exact .inl rfl | exact none_some | exact .inr ⟨rfl, rfl, fun _ _ => rfl⟩ | exact .inr ⟨rfl, rfl, lt1 rfl⟩ | exact .inr ⟨rfl, rfl, lt2 rfl rfl⟩ | exact .inr ⟨rfl, rfl, lt3 rfl rfl rfl⟩ | fail)))
    all_goals trace_state
  conv => whnf
  repeat' first | (refine RegP.enter ?_; conv => whnf) | (refine DrawP.range (by kernel_rfl) ?_; conv => whnf) | (refine BuildP.frz ⟨rfl, ?_⟩; conv => whnf) | (refine BoxP.row ?_; conv => whnf) | (refine And.intro Nat.zero_lt_one ?_; conv => whnf) | (refine And.intro (Nat.succ_pos _) ?_; conv => whnf) | fail
  refine Ent.of_check ?_ rfl
  conv => whnf
  (iterate 3 ((all_goals try (conv => whnf)); (repeat' first | exact True.intro | (refine And.intro ?_ ?_) | rfl | exact fun _ h => h | exact .inl rfl | exact none_some | exact .inr ⟨rfl, rfl, fun _ _ => rfl⟩ | exact .inr ⟨rfl, rfl, lt1 rfl⟩ | exact .inr ⟨rfl, rfl, lt2 rfl rfl⟩ | exact .inr ⟨rfl, rfl, lt3 rfl rfl rfl⟩ | fail)))
theorem law_Hour {a : Int} (ha : inInt a = true) : PSpec cxA 34 [.str oHour, .int a] (.ret (.tup [.int (hourM a), .bool true])) := by
  refine date_law (by unfold rightM; rw [if_pos (sz_one (by decide) a)]; rfl) (by rfl) ⟨2, ?_⟩
  have e : stepF (evalP OD 2) (one oHour a) gZero [] 0 = behindS (strictD oHour [gDate a] 2) := by rfl
  have e2 : strictD oHour [gDate a] 2 = (match true && inInt a with | true => .ok (gInt (hourM a)) 2 | false => .unk) := by rfl
  rw [e, e2, ha]
  rfl
theorem law_Minute {a : Int} (ha : inInt a = true) : PSpec cxA 34 [.str oMinute, .int a] (.ret (.tup [.int (minuteM a), .bool true])) := by
  refine date_law (by unfold rightM; rw [if_pos (sz_one (by decide) a)]; rfl) (by rfl) ⟨2, ?_⟩
  have e : stepF (evalP OD 2) (one oMinute a) gZero [] 0 = behindS (strictD oMinute [gDate a] 2) := by rfl
  have e2 : strictD oMinute [gDate a] 2 = (match true && inInt a with | true => .ok (gInt (minuteM a)) 2 | false => .unk) := by rfl
  rw [e, e2, ha]
  rfl
theorem law_Second {a : Int} (ha : inInt a = true) : PSpec cxA 34 [.str oSecond, .int a] (.ret (.tup [.int (secondM a), .bool true])) := by
  refine date_law (by unfold rightM; rw [if_pos (sz_one (by decide) a)]; rfl) (by rfl) ⟨2, ?_⟩
  have e : stepF (evalP OD 2) (one oSecond a) gZero [] 0 = behindS (strictD oSecond [gDate a] 2) := by rfl
  have e2 : strictD oSecond [gDate a] 2 = (match true && inInt a with | true => .ok (gInt (secondM a)) 2 | false => .unk) := by rfl
  rw [e, e2, ha]
  rfl
theorem law_Milli {a : Int} (ha : inInt a = true) : PSpec cxA 34 [.str oMilli, .int a] (.ret (.tup [.int (milliM a), .bool true])) := by
  refine date_law (by unfold rightM; rw [if_pos (sz_one (by decide) a)]; rfl) (by rfl) ⟨2, ?_⟩
  have e : stepF (evalP OD 2) (one oMilli a) gZero [] 0 = behindS (strictD oMilli [gDate a] 2) := by rfl
  have e2 : strictD oMilli [gDate a] 2 = (match true && inInt a with | true => .ok (gInt (milliM a)) 2 | false => .unk) := by rfl
  rw [e, e2, ha]
  rfl
theorem law_Weekday {a : Int} (ha : inInt a = true) : PSpec cxA 34 [.str oWeekday, .int a] (.ret (.tup [.int (weekdayM a), .bool true])) := by
  refine date_law (by unfold rightM; rw [if_pos (sz_one (by decide) a)]; rfl) (by rfl) ⟨2, ?_⟩
  have e : stepF (evalP OD 2) (one oWeekday a) gZero [] 0 = behindS (strictD oWeekday [gDate a] 2) := by rfl
  have e2 : strictD oWeekday [gDate a] 2 = (match true && inInt a with | true => .ok (gInt (weekdayM a)) 2 | false => .unk) := by rfl
  rw [e, e2, ha]
  rfl
theorem law_Year {a : Int} (ha : inInt a = true) : PSpec cxA 34 [.str oYear, .int a] (.ret (.tup [.int (yearA a), .bool true])) := by
  refine date_law (by unfold rightM; rw [if_pos (sz_one (by decide) a)]; rfl) (by rfl) ⟨2, ?_⟩
  have e : stepF (evalP OD 2) (one oYear a) gZero [] 0 = behindS (strictD oYear [gDate a] 2) := by rfl
  have e2 : strictD oYear [gDate a] 2 = (match true && inInt a with | true => .ok (gInt (yearA a)) 2 | false => .unk) := by rfl
  rw [e, e2, ha]
  rfl
theorem law_Month {a : Int} (ha : inInt a = true) : PSpec cxA 34 [.str oMonth, .int a] (.ret (.tup [.int (monthA a), .bool true])) := by
  refine date_law (by unfold rightM; rw [if_pos (sz_one (by decide) a)]; rfl) (by rfl) ⟨2, ?_⟩
  have e : stepF (evalP OD 2) (one oMonth a) gZero [] 0 = behindS (strictD oMonth [gDate a] 2) := by rfl
  have e2 : strictD oMonth [gDate a] 2 = (match true && inInt a with | true => .ok (gInt (monthA a)) 2 | false => .unk) := by rfl
  rw [e, e2, ha]
  rfl
theorem law_Day {a : Int} (ha : inInt a = true) : PSpec cxA 34 [.str oDay, .int a] (.ret (.tup [.int (dayA a), .bool true])) := by
  refine date_law (by unfold rightM; rw [if_pos (sz_one (by decide) a)]; rfl) (by rfl) ⟨2, ?_⟩
  have e : stepF (evalP OD 2) (one oDay a) gZero [] 0 = behindS (strictD oDay [gDate a] 2) := by rfl
  have e2 : strictD oDay [gDate a] 2 = (match true && inInt a with | true => .ok (gInt (dayA a)) 2 | false => .unk) := by rfl
  rw [e, e2, ha]
  rfl
end Go.Eng

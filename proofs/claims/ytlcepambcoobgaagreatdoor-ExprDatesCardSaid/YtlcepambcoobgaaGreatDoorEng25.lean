/- Eng25: an engine for the program's code, and walks of its functions (Xa Xb Xc Xd Xe Xf). -/
import Derived.Test.YtlcepambcoobgaaGreatDoorEng24
import Derived.WalkKit
import Derived.Defers
import Derived.Recover
namespace Go.Eng
open Go.Proofs
set_option maxRecDepth 10000
theorem sub_yes (a b : GV) (ka : a.kind = 3) (kb : b.kind = 3) (ha : inInt a.int = true) (hb : inInt b.int = true) (h : inInt (a.int - b.int) = true) : PSpec cxA 403 [.agg a.cells, .agg b.cells] (.ret (.agg (gInt (a.int - b.int)).cells)) := by
  obtain ⟨k1, n1, t1, l1, d1⟩ := a
  obtain ⟨k2, n2, t2, l2, d2⟩ := b
  replace ka : k1 = 3 := ka
  replace kb : k2 = 3 := kb
  subst ka
  subst kb
  refine PSpec.of_WC cxA_ok Tryz.func403 rfl Tryz.call403 (Nat.le_of_ble_eq_true rfl) (g := 1) ?_
  conv => whnf
  repeat' first | (refine RegP.enter ?_; conv => whnf) | (refine DrawP.range (by kernel_rfl) ?_; conv => whnf) | (refine BuildP.frz ⟨rfl, ?_⟩; conv => whnf) | (refine BoxP.row ?_; conv => whnf) | (refine And.intro Nat.zero_lt_one ?_; conv => whnf) | (refine And.intro (Nat.succ_pos _) ?_; conv => whnf) | (refine call_same (minus_yes n1 n2 ha hb h) rfl ?_; conv => whnf) | fail
  refine Ent.of_check ?_ rfl
  conv => whnf
  (iterate 3 ((all_goals try (conv => whnf)); (repeat' first | exact True.intro | (refine And.intro ?_ ?_) | rfl | exact fun _ h => h | exact .inl rfl | exact none_some | exact .inr ⟨rfl, rfl, fun _ _ => rfl⟩ | exact .inr ⟨rfl, rfl, lt1 rfl⟩ | exact .inr ⟨rfl, rfl, lt2 rfl rfl⟩ | exact .inr ⟨rfl, rfl, lt3 rfl rfl rfl⟩ | fail)))
theorem sub_no (a b : GV) (ka : a.kind = 3) (kb : b.kind = 3) (ha : inInt a.int = true) (hb : inInt b.int = true) (h : inInt (a.int - b.int) = false) : MSpec cxA 403 [.agg a.cells, .agg b.cells] [] (fun _ : Unit => .pan (stopAV 52)) (fun _ => []) := by
  obtain ⟨k1, n1, t1, l1, d1⟩ := a
  obtain ⟨k2, n2, t2, l2, d2⟩ := b
  replace ka : k1 = 3 := ka
  replace kb : k2 = 3 := kb
  subst ka
  subst kb
  refine MSpec.of_WC cxA_ok Tryz.func403 rfl Tryz.call403 (Nat.le_of_ble_eq_true rfl) (g := 1) ?_
  conv => whnf
  repeat' first | (refine RegP.enter ?_; conv => whnf) | (refine DrawP.range (by kernel_rfl) ?_; conv => whnf) | (refine BuildP.frz ⟨rfl, ?_⟩; conv => whnf) | (refine BoxP.row ?_; conv => whnf) | (refine And.intro Nat.zero_lt_one ?_; conv => whnf) | (refine And.intro (Nat.succ_pos _) ?_; conv => whnf) | fail
  refine call_mm [] 1 37 (minus_no n1 n2 ha hb h) ?_ ?_ ?_
  · conv => whnf
    (iterate 3 ((all_goals try (conv => whnf)); (repeat' first | exact True.intro | (refine And.intro ?_ ?_) | rfl | exact fun _ h => h | exact .inl rfl | exact none_some | exact .inr ⟨rfl, rfl, fun _ _ => rfl⟩ | exact .inr ⟨rfl, rfl, lt1 rfl⟩ | exact .inr ⟨rfl, rfl, lt2 rfl rfl⟩ | exact .inr ⟨rfl, rfl, lt3 rfl rfl rfl⟩ | fail)))
  · intro _; conv => whnf
    (iterate 3 ((all_goals try (conv => whnf)); (repeat' first | exact True.intro | (refine And.intro ?_ ?_) | rfl | exact fun _ h => h | exact .inl rfl | exact none_some | exact .inr ⟨rfl, rfl, fun _ _ => rfl⟩ | exact .inr ⟨rfl, rfl, lt1 rfl⟩ | exact .inr ⟨rfl, rfl, lt2 rfl rfl⟩ | exact .inr ⟨rfl, rfl, lt3 rfl rfl rfl⟩ | fail)))
  intro x; conv => whnf
  refine ⟨(), _, rfl, Sub.of_check [] ?_ (by repeat' first | exact Gen0.emp | exact Gen0.ofH rfl | refine Gen0.put ?_ (by decide) | refine Gen0.put0 ?_ ⟨_, rfl⟩)⟩
  conv => whnf
  (iterate 3 ((all_goals try (conv => whnf)); (repeat' first | exact True.intro | (refine And.intro ?_ ?_) | rfl | exact fun _ h => h | exact .inl rfl | exact none_some | exact .inr ⟨rfl, rfl, fun _ _ => rfl⟩ | exact .inr ⟨rfl, rfl, lt1 rfl⟩ | exact .inr ⟨rfl, rfl, lt2 rfl rfl⟩ | exact .inr ⟨rfl, rfl, lt3 rfl rfl rfl⟩ | fail)))
theorem strict_add (v : GV) (l : List GV) (hk : allKind 3 (v :: l) = true) (hi : ∀ g, g ∈ v :: l → inInt g.int = true) (doc : GV) (k : Int) : RsSpec 395 [.ptr (0,0,0) 0 0, .str oAdd, .lz (.gl (v :: l))] doc k (numR (sumL v.int l k)) := by
  have ha := added_ok v l hk hi k
  have hkk := sumL_k l v.int k
  generalize numR (sumL v.int l k) = r at *
  refine RsSpec.of fun hu => ?_
  refine MSpec.of_WC cxA_ok Tryz.func395 rfl Tryz.call395 (Nat.le_of_ble_eq_true rfl) (g := 1) ?_
  conv => whnf
  repeat' first | (refine RegP.enter ?_; conv => whnf) | (refine DrawP.range (by kernel_rfl) ?_; conv => whnf) | (refine BuildP.frz ⟨rfl, ?_⟩; conv => whnf) | (refine BoxP.row ?_; conv => whnf) | (refine And.intro Nat.zero_lt_one ?_; conv => whnf) | (refine And.intro (Nat.succ_pos _) ?_; conv => whnf) | fail
  cases r with
  | unk => exact absurd rfl hu
  | ok g k' =>
    replace hkk : k' = k := hkk
    subst hkk
    refine call_mm [] 1 21 (ha) ?_ ?_ ?_
    · conv => whnf
      (iterate 3 ((all_goals try (conv => whnf)); (repeat' first | exact True.intro | (refine And.intro ?_ ?_) | rfl | exact fun _ h => h | exact .inl rfl | exact none_some | exact .inr ⟨rfl, rfl, fun _ _ => rfl⟩ | exact .inr ⟨rfl, rfl, lt1 rfl⟩ | exact .inr ⟨rfl, rfl, lt2 rfl rfl⟩ | exact .inr ⟨rfl, rfl, lt3 rfl rfl rfl⟩ | fail)))
    · intro _; conv => whnf
      (iterate 3 ((all_goals try (conv => whnf)); (repeat' first | exact True.intro | (refine And.intro ?_ ?_) | rfl | exact fun _ h => h | exact .inl rfl | exact none_some | exact .inr ⟨rfl, rfl, fun _ _ => rfl⟩ | exact .inr ⟨rfl, rfl, lt1 rfl⟩ | exact .inr ⟨rfl, rfl, lt2 rfl rfl⟩ | exact .inr ⟨rfl, rfl, lt3 rfl rfl rfl⟩ | fail)))
    intro x; conv => whnf
    repeat' first | (refine RegP.enter ?_; conv => whnf) | (refine DrawP.range (by kernel_rfl) ?_; conv => whnf) | (refine BuildP.frz ⟨rfl, ?_⟩; conv => whnf) | (refine BoxP.row ?_; conv => whnf) | (refine And.intro Nat.zero_lt_one ?_; conv => whnf) | (refine And.intro (Nat.succ_pos _) ?_; conv => whnf) | fail
    refine ⟨(), _, rfl, Sub.of_check [((0,0,0), .old true (0,0,0))] ?_ (by repeat' first | exact Gen0.emp | exact Gen0.ofH rfl | refine Gen0.put ?_ (by decide) | refine Gen0.put0 ?_ ⟨_, rfl⟩)⟩
    conv => whnf
    (iterate 3 ((all_goals try (conv => whnf)); (repeat' first | exact True.intro | (refine And.intro ?_ ?_) | rfl | exact fun _ h => h | exact .inl rfl | exact none_some | exact .inr ⟨rfl, rfl, fun _ _ => rfl⟩ | exact .inr ⟨rfl, rfl, lt1 rfl⟩ | exact .inr ⟨rfl, rfl, lt2 rfl rfl⟩ | exact .inr ⟨rfl, rfl, lt3 rfl rfl rfl⟩ | fail)))
  | fail e k' =>
    replace hkk : k' = k := hkk
    subst hkk
    refine call_mm [] 1 21 (ha) ?_ ?_ ?_
    · conv => whnf
      (iterate 3 ((all_goals try (conv => whnf)); (repeat' first | exact True.intro | (refine And.intro ?_ ?_) | rfl | exact fun _ h => h | exact .inl rfl | exact none_some | exact .inr ⟨rfl, rfl, fun _ _ => rfl⟩ | exact .inr ⟨rfl, rfl, lt1 rfl⟩ | exact .inr ⟨rfl, rfl, lt2 rfl rfl⟩ | exact .inr ⟨rfl, rfl, lt3 rfl rfl rfl⟩ | fail)))
    · intro _; conv => whnf
      (iterate 3 ((all_goals try (conv => whnf)); (repeat' first | exact True.intro | (refine And.intro ?_ ?_) | rfl | exact fun _ h => h | exact .inl rfl | exact none_some | exact .inr ⟨rfl, rfl, fun _ _ => rfl⟩ | exact .inr ⟨rfl, rfl, lt1 rfl⟩ | exact .inr ⟨rfl, rfl, lt2 rfl rfl⟩ | exact .inr ⟨rfl, rfl, lt3 rfl rfl rfl⟩ | fail)))
    intro x; conv => whnf
    refine ⟨(), _, rfl, Sub.of_check [((0,0,0), .old true (0,0,0))] ?_ (by repeat' first | exact Gen0.emp | exact Gen0.ofH rfl | refine Gen0.put ?_ (by decide) | refine Gen0.put0 ?_ ⟨_, rfl⟩)⟩
    conv => whnf
    (iterate 3 ((all_goals try (conv => whnf)); (repeat' first | exact True.intro | (refine And.intro ?_ ?_) | rfl | exact fun _ h => h | exact .inl rfl | exact none_some | exact .inr ⟨rfl, rfl, fun _ _ => rfl⟩ | exact .inr ⟨rfl, rfl, lt1 rfl⟩ | exact .inr ⟨rfl, rfl, lt2 rfl rfl⟩ | exact .inr ⟨rfl, rfl, lt3 rfl rfl rfl⟩ | fail)))
theorem strict_sub (a b : GV) (ka : a.kind = 3) (kb : b.kind = 3) (ha : inInt a.int = true) (hb : inInt b.int = true) (doc : GV) (k : Int) : RsSpec 395 [.ptr (0,0,0) 0 0, .str oSubtract, .lz (.gl [a, b])] doc k (numM (a.int - b.int) k) := by
  unfold numM
  cases h : inInt (a.int - b.int)
  · refine MSpec.of_WC cxA_ok Tryz.func395 rfl Tryz.call395 (Nat.le_of_ble_eq_true rfl) (g := 1) ?_
    conv => whnf
    refine RegP.enter ?_
    conv => whnf
    refine RegP.enter ?_
    conv => whnf
    refine RegP.enter ?_
    conv => whnf
    refine RegP.enter ?_
    conv => whnf
    refine RegP.enter ?_
    conv => whnf
    refine DrawP.rangeQ (fun i => !(Nat.beq i 6)) (by kernel_rfl) ?_
    conv => whnf
    repeat' first | (refine RegP.enter ?_; conv => whnf) | (refine DrawP.range (by kernel_rfl) ?_; conv => whnf) | (refine BuildP.frz ⟨rfl, ?_⟩; conv => whnf) | (refine BoxP.row ?_; conv => whnf) | (refine And.intro Nat.zero_lt_one ?_; conv => whnf) | (refine And.intro (Nat.succ_pos _) ?_; conv => whnf) | fail
    refine And.intro ((by decide : 1 < 2)) ?_
    conv => whnf
    refine And.intro ((by decide : 1 < 2)) ?_
    conv => whnf
    repeat' first | (refine RegP.enter ?_; conv => whnf) | (refine DrawP.range (by kernel_rfl) ?_; conv => whnf) | (refine BuildP.frz ⟨rfl, ?_⟩; conv => whnf) | (refine BoxP.row ?_; conv => whnf) | (refine And.intro Nat.zero_lt_one ?_; conv => whnf) | (refine And.intro (Nat.succ_pos _) ?_; conv => whnf) | fail
    refine call_mm [] 1 30 (sub_no a b ka kb ha hb h) ?_ ?_ ?_
    · conv => whnf
      (iterate 3 ((all_goals try (conv => whnf)); (repeat' first | exact True.intro | (refine And.intro ?_ ?_) | rfl | exact fun _ h => h | exact .inl rfl | exact none_some | exact .inr ⟨rfl, rfl, fun _ _ => rfl⟩ | exact .inr ⟨rfl, rfl, lt1 rfl⟩ | exact .inr ⟨rfl, rfl, lt2 rfl rfl⟩ | exact .inr ⟨rfl, rfl, lt3 rfl rfl rfl⟩ | fail)))
    · intro _; conv => whnf
      (iterate 3 ((all_goals try (conv => whnf)); (repeat' first | exact True.intro | (refine And.intro ?_ ?_) | rfl | exact fun _ h => h | exact .inl rfl | exact none_some | exact .inr ⟨rfl, rfl, fun _ _ => rfl⟩ | exact .inr ⟨rfl, rfl, lt1 rfl⟩ | exact .inr ⟨rfl, rfl, lt2 rfl rfl⟩ | exact .inr ⟨rfl, rfl, lt3 rfl rfl rfl⟩ | fail)))
    intro x; conv => whnf
    refine ⟨(), _, rfl, Sub.of_check [((0,0,0), .old true (0,0,0))] ?_ (by repeat' first | exact Gen0.emp | exact Gen0.ofH rfl | refine Gen0.put ?_ (by decide) | refine Gen0.put0 ?_ ⟨_, rfl⟩)⟩
    conv => whnf
    (iterate 3 ((all_goals try (conv => whnf)); (repeat' first | exact True.intro | (refine And.intro ?_ ?_) | rfl | exact fun _ h => h | exact .inl rfl | exact none_some | exact .inr ⟨rfl, rfl, fun _ _ => rfl⟩ | exact .inr ⟨rfl, rfl, lt1 rfl⟩ | exact .inr ⟨rfl, rfl, lt2 rfl rfl⟩ | exact .inr ⟨rfl, rfl, lt3 rfl rfl rfl⟩ | fail)))
  · have hs := sub_yes a b ka kb ha hb h
    generalize gInt (a.int - b.int) = r at *
    refine MSpec.of_WC cxA_ok Tryz.func395 rfl Tryz.call395 (Nat.le_of_ble_eq_true rfl) (g := 1) ?_
    conv => whnf
    repeat' first | (refine RegP.enter ?_; conv => whnf) | (refine DrawP.range (by kernel_rfl) ?_; conv => whnf) | (refine BuildP.frz ⟨rfl, ?_⟩; conv => whnf) | (refine BoxP.row ?_; conv => whnf) | (refine And.intro Nat.zero_lt_one ?_; conv => whnf) | (refine And.intro (Nat.succ_pos _) ?_; conv => whnf) | fail
    refine And.intro ((by decide : 1 < 2)) ?_
    conv => whnf
    refine And.intro ((by decide : 1 < 2)) ?_
    conv => whnf
    repeat' first | (refine RegP.enter ?_; conv => whnf) | (refine DrawP.range (by kernel_rfl) ?_; conv => whnf) | (refine BuildP.frz ⟨rfl, ?_⟩; conv => whnf) | (refine BoxP.row ?_; conv => whnf) | (refine And.intro Nat.zero_lt_one ?_; conv => whnf) | (refine And.intro (Nat.succ_pos _) ?_; conv => whnf) | (refine call_same (hs) rfl ?_; conv => whnf) | fail
    refine ⟨(), _, rfl, Sub.of_check [((0,0,0), .old true (0,0,0))] ?_ (by repeat' first | exact Gen0.emp | exact Gen0.ofH rfl | refine Gen0.put ?_ (by decide) | refine Gen0.put0 ?_ ⟨_, rfl⟩)⟩
    conv => whnf
    (iterate 3 ((all_goals try (conv => whnf)); (repeat' first | exact True.intro | (refine And.intro ?_ ?_) | rfl | exact fun _ h => h | exact .inl rfl | exact none_some | exact .inr ⟨rfl, rfl, fun _ _ => rfl⟩ | exact .inr ⟨rfl, rfl, lt1 rfl⟩ | exact .inr ⟨rfl, rfl, lt2 rfl rfl⟩ | exact .inr ⟨rfl, rfl, lt3 rfl rfl rfl⟩ | fail)))
theorem strict_mul (v : GV) (l : List GV) (hk : allKind 3 (v :: l) = true) (hi : ∀ g, g ∈ v :: l → inInt g.int = true) (doc : GV) (k : Int) : RsSpec 395 [.ptr (0,0,0) 0 0, .str oMultiply, .lz (.gl (v :: l))] doc k (numR (mulL v.int l k)) := by
  have hkk := mulL_k l v.int k
  generalize hr : numR (mulL v.int l k) = r at *
  refine RsSpec.of fun hu => ?_
  refine MSpec.of_WC cxA_ok Tryz.func395 rfl Tryz.call395 (Nat.le_of_ble_eq_true rfl) (g := 1) ?_
  conv => whnf
  repeat' first | (refine RegP.enter ?_; conv => whnf) | (refine DrawP.range (by kernel_rfl) ?_; conv => whnf) | (refine BuildP.frz ⟨rfl, ?_⟩; conv => whnf) | (refine BoxP.row ?_; conv => whnf) | (refine And.intro Nat.zero_lt_one ?_; conv => whnf) | (refine And.intro (Nat.succ_pos _) ?_; conv => whnf) | (refine call_same (want_ok (v :: l) hk) rfl ?_; conv => whnf) | fail
  refine ⟨3, {q : Int × Nat // q.2 ≤ l.length ∧ inInt q.1 = true ∧ numR (mulL q.1 (l.drop q.2) k) = r}, fun i => ([(6, .ptr (1,6,0) 0 0), (7, .int i.1.1), (40, .lz (.gl l)), (41, .int l.length), (42, .int i.1.2)], [((0,0,0), runRow doc k), ((1,6,0), .cells 5 80 [[.int 0, .int 0, .str ⟨#[]⟩, .nil, .nil]])]), fun i => l.length - i.1.2, ⟨⟨(v.int, 0), Nat.zero_le _, hi v (by simp), hr⟩, Sub.of_check [((0,0,0), .old true (0,0,0)), ((1,6,0), .old true (1,6,0))] ?_ (by repeat' first | exact Gen0.emp | exact Gen0.ofH rfl | refine Gen0.put ?_ (by decide) | refine Gen0.put0 ?_ ⟨_, rfl⟩)⟩, fun ⟨⟨n, i⟩, hi2, hn, hia⟩ => ?_⟩
  · conv => whnf
    (iterate 3 ((all_goals try (conv => whnf)); (repeat' first | exact True.intro | (refine And.intro ?_ ?_) | rfl | exact fun _ h => h | exact .inl rfl | exact none_some | exact .inr ⟨rfl, rfl, fun _ _ => rfl⟩ | exact .inr ⟨rfl, rfl, lt1 rfl⟩ | exact .inr ⟨rfl, rfl, lt2 rfl rfl⟩ | exact .inr ⟨rfl, rfl, lt3 rfl rfl rfl⟩ | fail)))
    all_goals first | exact .inr ⟨rfl, rfl, tail_lz⟩ | (simp; done) | trace_state
  conv => whnf
  refine RegP.go fun hf => ?_
  conv => whnf
  refine br (fun hl2 => ?_) (fun hl2 => ?_)
  · have hlt : i < l.length := Int.ofNat_lt.1 (of_decide_eq_true hl2)
    have hR := le_of_mul (k := 79) (hf.lz 40 _ _ _ _ _ _ rfl rfl)
    try rw [hl2]
    conv => whnf
    repeat' first | (refine RegP.enter ?_; conv => whnf) | (refine DrawP.range (by kernel_rfl) ?_; conv => whnf) | (refine BuildP.frz ⟨rfl, ?_⟩; conv => whnf) | (refine BoxP.row ?_; conv => whnf) | (refine And.intro Nat.zero_lt_one ?_; conv => whnf) | (refine And.intro (Nat.succ_pos _) ?_; conv => whnf) | fail
    refine And.intro (hlt) ?_
    conv => whnf
    refine And.intro (hlt) ?_
    conv => whnf
    repeat' first | (refine RegP.enter ?_; conv => whnf) | (refine DrawP.range (by kernel_rfl) ?_; conv => whnf) | (refine BuildP.frz ⟨rfl, ?_⟩; conv => whnf) | (refine BoxP.row ?_; conv => whnf) | (refine And.intro Nat.zero_lt_one ?_; conv => whnf) | (refine And.intro (Nat.succ_pos _) ?_; conv => whnf) | fail
    have hxi := hi (l.getD i default) (List.mem_cons_of_mem _ (mem_getD hlt))
    replace hia : numR (mulL n (l.drop i) k) = r := hia
    rw [mulL_drop hlt] at hia
    cases hs : inInt (n * (l.getD i default).int)
    · rw [hs] at hia
      replace hia : .fail 52 k = r := hia
      subst hia
      refine call_mm [] 3 49 (times_no n (l.getD i default).int hn hxi hs) ?_ ?_ ?_
      · conv => whnf
        (iterate 3 ((all_goals try (conv => whnf)); (repeat' first | exact True.intro | (refine And.intro ?_ ?_) | rfl | exact fun _ h => h | exact .inl rfl | exact none_some | exact .inr ⟨rfl, rfl, fun _ _ => rfl⟩ | exact .inr ⟨rfl, rfl, lt1 rfl⟩ | exact .inr ⟨rfl, rfl, lt2 rfl rfl⟩ | exact .inr ⟨rfl, rfl, lt3 rfl rfl rfl⟩ | fail)))
      · intro _; conv => whnf
        (iterate 3 ((all_goals try (conv => whnf)); (repeat' first | exact True.intro | (refine And.intro ?_ ?_) | rfl | exact fun _ h => h | exact .inl rfl | exact none_some | exact .inr ⟨rfl, rfl, fun _ _ => rfl⟩ | exact .inr ⟨rfl, rfl, lt1 rfl⟩ | exact .inr ⟨rfl, rfl, lt2 rfl rfl⟩ | exact .inr ⟨rfl, rfl, lt3 rfl rfl rfl⟩ | fail)))
      intro x; conv => whnf
      refine ⟨(), _, rfl, Sub.of_check [((0,0,0), .old true (0,0,0))] ?_ (by repeat' first | exact Gen0.emp | exact Gen0.ofH rfl | refine Gen0.put ?_ (by decide) | refine Gen0.put0 ?_ ⟨_, rfl⟩)⟩
      conv => whnf
      (iterate 3 ((all_goals try (conv => whnf)); (repeat' first | exact True.intro | (refine And.intro ?_ ?_) | rfl | exact fun _ h => h | exact .inl rfl | exact none_some | exact .inr ⟨rfl, rfl, fun _ _ => rfl⟩ | exact .inr ⟨rfl, rfl, lt1 rfl⟩ | exact .inr ⟨rfl, rfl, lt2 rfl rfl⟩ | exact .inr ⟨rfl, rfl, lt3 rfl rfl rfl⟩ | fail)))
    · rw [hs] at hia
      repeat' first | (refine RegP.enter ?_; conv => whnf) | (refine DrawP.range (by kernel_rfl) ?_; conv => whnf) | (refine BuildP.frz ⟨rfl, ?_⟩; conv => whnf) | (refine BoxP.row ?_; conv => whnf) | (refine And.intro Nat.zero_lt_one ?_; conv => whnf) | (refine And.intro (Nat.succ_pos _) ?_; conv => whnf) | (refine call_same (times_yes n (l.getD i default).int hn hxi hs) rfl ?_; conv => whnf) | fail
      refine ⟨⟨(n * (l.getD i default).int, i + 1), hlt, hs, hia⟩, (by show l.length - (i + 1) < l.length - i; omega), Sub.of_check [((0,0,0), .old true (0,0,0)), ((1,6,0), .old true (1,6,0))] ?_ (by repeat' first | exact Gen0.emp | exact Gen0.ofH rfl | refine Gen0.put ?_ (by decide) | refine Gen0.put0 ?_ ⟨_, rfl⟩)⟩
      conv => whnf
      (iterate 3 ((all_goals try (conv => whnf)); (repeat' first | exact True.intro | (refine And.intro ?_ ?_) | rfl | exact fun _ h => h | exact .inl rfl | exact none_some | exact .inr ⟨rfl, rfl, fun _ _ => rfl⟩ | exact .inr ⟨rfl, rfl, lt1 rfl⟩ | exact .inr ⟨rfl, rfl, lt2 rfl rfl⟩ | exact .inr ⟨rfl, rfl, lt3 rfl rfl rfl⟩ | fail)))
      all_goals exact wrap_succ hlt hR
  have hge : i = l.length := by
    have h' : ¬ ((i : Int) < ((l.length : Nat) : Int)) := of_decide_eq_false hl2
    have : i ≤ l.length := hi2
    omega
  have hia : .ok (gInt n) k = r := by
    rw [← hia]
    show _ = numR (mulL n (l.drop i) k)
    rw [hge, List.drop_length]; rfl
  subst hia
  try rw [hl2]
  conv => whnf
  repeat' first | (refine RegP.enter ?_; conv => whnf) | (refine DrawP.range (by kernel_rfl) ?_; conv => whnf) | (refine BuildP.frz ⟨rfl, ?_⟩; conv => whnf) | (refine BoxP.row ?_; conv => whnf) | (refine And.intro Nat.zero_lt_one ?_; conv => whnf) | (refine And.intro (Nat.succ_pos _) ?_; conv => whnf) | (refine call_same (number_ok n) rfl ?_; conv => whnf) | fail
  refine ⟨(), _, rfl, Sub.of_check [((0,0,0), .old true (0,0,0))] ?_ (by repeat' first | exact Gen0.emp | exact Gen0.ofH rfl | refine Gen0.put ?_ (by decide) | refine Gen0.put0 ?_ ⟨_, rfl⟩)⟩
  conv => whnf
  (iterate 3 ((all_goals try (conv => whnf)); (repeat' first | exact True.intro | (refine And.intro ?_ ?_) | rfl | exact fun _ h => h | exact .inl rfl | exact none_some | exact .inr ⟨rfl, rfl, fun _ _ => rfl⟩ | exact .inr ⟨rfl, rfl, lt1 rfl⟩ | exact .inr ⟨rfl, rfl, lt2 rfl rfl⟩ | exact .inr ⟨rfl, rfl, lt3 rfl rfl rfl⟩ | fail)))
theorem strict_oDivide0 (a b : GV) (hk : allKind 3 [a, b] = true) (hz : b.int = 0) (doc : GV) (k : Int) : RsSpec 395 [.ptr (0,0,0) 0 0, .str oDivide, .lz (.gl [a, b])] doc k (.fail 53 k) := by

  refine MSpec.of_WC cxA_ok Tryz.func395 rfl Tryz.call395 (Nat.le_of_ble_eq_true rfl) (g := 1) ?_
  conv => whnf
  refine RegP.enter ?_
  conv => whnf
  refine RegP.enter ?_
  conv => whnf
  refine RegP.enter ?_
  conv => whnf
  refine RegP.enter ?_
  conv => whnf
  refine RegP.enter ?_
  conv => whnf
  refine RegP.enter ?_
  conv => whnf
  refine RegP.enter ?_
  conv => whnf
  refine call_same (want_ok [a, b] hk) rfl ?_
  conv => whnf
  refine RegP.enter ?_
  conv => whnf
  refine DrawP.rangeQ (fun i => !(Nat.beq i 9)) (by kernel_rfl) ?_
  conv => whnf
  repeat' first | (refine RegP.enter ?_; conv => whnf) | (refine DrawP.range (by kernel_rfl) ?_; conv => whnf) | (refine BuildP.frz ⟨rfl, ?_⟩; conv => whnf) | (refine BoxP.row ?_; conv => whnf) | (refine And.intro Nat.zero_lt_one ?_; conv => whnf) | (refine And.intro (Nat.succ_pos _) ?_; conv => whnf) | fail
  refine And.intro ((by decide : 1 < 2)) ?_
  conv => whnf
  refine And.intro ((by decide : 1 < 2)) ?_
  conv => whnf
  repeat' first | (refine RegP.enter ?_; conv => whnf) | (refine DrawP.range (by kernel_rfl) ?_; conv => whnf) | (refine BuildP.frz ⟨rfl, ?_⟩; conv => whnf) | (refine BoxP.row ?_; conv => whnf) | (refine And.intro Nat.zero_lt_one ?_; conv => whnf) | (refine And.intro (Nat.succ_pos _) ?_; conv => whnf) | fail
  refine call_mm [] 1 67 (div_zero oDivide a.int) ?_ ?_ ?_
  · conv => whnf
    (iterate 3 ((all_goals try (conv => whnf)); (repeat' first | exact True.intro | (refine And.intro ?_ ?_) | rfl | exact fun _ h => h | exact .inl rfl | exact none_some | exact .inr ⟨rfl, rfl, fun _ _ => rfl⟩ | exact .inr ⟨rfl, rfl, lt1 rfl⟩ | exact .inr ⟨rfl, rfl, lt2 rfl rfl⟩ | exact .inr ⟨rfl, rfl, lt3 rfl rfl rfl⟩ | fail)))
    all_goals exact hz
  · intro _; conv => whnf
    (iterate 3 ((all_goals try (conv => whnf)); (repeat' first | exact True.intro | (refine And.intro ?_ ?_) | rfl | exact fun _ h => h | exact .inl rfl | exact none_some | exact .inr ⟨rfl, rfl, fun _ _ => rfl⟩ | exact .inr ⟨rfl, rfl, lt1 rfl⟩ | exact .inr ⟨rfl, rfl, lt2 rfl rfl⟩ | exact .inr ⟨rfl, rfl, lt3 rfl rfl rfl⟩ | fail)))
  intro x; conv => whnf
  refine ⟨(), _, rfl, Sub.of_check [((0,0,0), .old true (0,0,0))] ?_ (by repeat' first | exact Gen0.emp | exact Gen0.ofH rfl | refine Gen0.put ?_ (by decide) | refine Gen0.put0 ?_ ⟨_, rfl⟩)⟩
  conv => whnf
  (iterate 3 ((all_goals try (conv => whnf)); (repeat' first | exact True.intro | (refine And.intro ?_ ?_) | rfl | exact fun _ h => h | exact .inl rfl | exact none_some | exact .inr ⟨rfl, rfl, fun _ _ => rfl⟩ | exact .inr ⟨rfl, rfl, lt1 rfl⟩ | exact .inr ⟨rfl, rfl, lt2 rfl rfl⟩ | exact .inr ⟨rfl, rfl, lt3 rfl rfl rfl⟩ | fail)))
theorem strict_oMod0 (a b : GV) (hk : allKind 3 [a, b] = true) (hz : b.int = 0) (doc : GV) (k : Int) : RsSpec 395 [.ptr (0,0,0) 0 0, .str oMod, .lz (.gl [a, b])] doc k (.fail 53 k) := by

  refine MSpec.of_WC cxA_ok Tryz.func395 rfl Tryz.call395 (Nat.le_of_ble_eq_true rfl) (g := 1) ?_
  conv => whnf
  refine RegP.enter ?_
  conv => whnf
  refine RegP.enter ?_
  conv => whnf
  refine RegP.enter ?_
  conv => whnf
  refine RegP.enter ?_
  conv => whnf
  refine RegP.enter ?_
  conv => whnf
  refine RegP.enter ?_
  conv => whnf
  refine RegP.enter ?_
  conv => whnf
  refine RegP.enter ?_
  conv => whnf
  refine call_same (want_ok [a, b] hk) rfl ?_
  conv => whnf
  refine RegP.enter ?_
  conv => whnf
  refine DrawP.rangeQ (fun i => !(Nat.beq i 9)) (by kernel_rfl) ?_
  conv => whnf
  repeat' first | (refine RegP.enter ?_; conv => whnf) | (refine DrawP.range (by kernel_rfl) ?_; conv => whnf) | (refine BuildP.frz ⟨rfl, ?_⟩; conv => whnf) | (refine BoxP.row ?_; conv => whnf) | (refine And.intro Nat.zero_lt_one ?_; conv => whnf) | (refine And.intro (Nat.succ_pos _) ?_; conv => whnf) | fail
  refine And.intro ((by decide : 1 < 2)) ?_
  conv => whnf
  refine And.intro ((by decide : 1 < 2)) ?_
  conv => whnf
  repeat' first | (refine RegP.enter ?_; conv => whnf) | (refine DrawP.range (by kernel_rfl) ?_; conv => whnf) | (refine BuildP.frz ⟨rfl, ?_⟩; conv => whnf) | (refine BoxP.row ?_; conv => whnf) | (refine And.intro Nat.zero_lt_one ?_; conv => whnf) | (refine And.intro (Nat.succ_pos _) ?_; conv => whnf) | fail
  refine call_mm [] 1 67 (div_zero oMod a.int) ?_ ?_ ?_
  · conv => whnf
    (iterate 3 ((all_goals try (conv => whnf)); (repeat' first | exact True.intro | (refine And.intro ?_ ?_) | rfl | exact fun _ h => h | exact .inl rfl | exact none_some | exact .inr ⟨rfl, rfl, fun _ _ => rfl⟩ | exact .inr ⟨rfl, rfl, lt1 rfl⟩ | exact .inr ⟨rfl, rfl, lt2 rfl rfl⟩ | exact .inr ⟨rfl, rfl, lt3 rfl rfl rfl⟩ | fail)))
    all_goals exact hz
  · intro _; conv => whnf
    (iterate 3 ((all_goals try (conv => whnf)); (repeat' first | exact True.intro | (refine And.intro ?_ ?_) | rfl | exact fun _ h => h | exact .inl rfl | exact none_some | exact .inr ⟨rfl, rfl, fun _ _ => rfl⟩ | exact .inr ⟨rfl, rfl, lt1 rfl⟩ | exact .inr ⟨rfl, rfl, lt2 rfl rfl⟩ | exact .inr ⟨rfl, rfl, lt3 rfl rfl rfl⟩ | fail)))
  intro x; conv => whnf
  refine ⟨(), _, rfl, Sub.of_check [((0,0,0), .old true (0,0,0))] ?_ (by repeat' first | exact Gen0.emp | exact Gen0.ofH rfl | refine Gen0.put ?_ (by decide) | refine Gen0.put0 ?_ ⟨_, rfl⟩)⟩
  conv => whnf
  (iterate 3 ((all_goals try (conv => whnf)); (repeat' first | exact True.intro | (refine And.intro ?_ ?_) | rfl | exact fun _ h => h | exact .inl rfl | exact none_some | exact .inr ⟨rfl, rfl, fun _ _ => rfl⟩ | exact .inr ⟨rfl, rfl, lt1 rfl⟩ | exact .inr ⟨rfl, rfl, lt2 rfl rfl⟩ | exact .inr ⟨rfl, rfl, lt3 rfl rfl rfl⟩ | fail)))
theorem strict_mod (a b : GV) (hk : allKind 3 [a, b] = true) (h0 : ¬ b.int = 0) (doc : GV) (k : Int) : RsSpec 395 [.ptr (0,0,0) 0 0, .str oMod, .lz (.gl [a, b])] doc k (.ok (gInt (a.int.tmod b.int)) k) := by
  have hs := mod_ok a.int b.int h0
  generalize gInt (a.int.tmod b.int) = r at *
  refine MSpec.of_WC cxA_ok Tryz.func395 rfl Tryz.call395 (Nat.le_of_ble_eq_true rfl) (g := 1) ?_
  conv => whnf
  repeat' first | (refine RegP.enter ?_; conv => whnf) | (refine DrawP.range (by kernel_rfl) ?_; conv => whnf) | (refine BuildP.frz ⟨rfl, ?_⟩; conv => whnf) | (refine BoxP.row ?_; conv => whnf) | (refine And.intro Nat.zero_lt_one ?_; conv => whnf) | (refine And.intro (Nat.succ_pos _) ?_; conv => whnf) | (refine call_same (want_ok [a, b] hk) rfl ?_; conv => whnf) | fail
  refine And.intro ((by decide : 1 < 2)) ?_
  conv => whnf
  refine And.intro ((by decide : 1 < 2)) ?_
  conv => whnf
  repeat' first | (refine RegP.enter ?_; conv => whnf) | (refine DrawP.range (by kernel_rfl) ?_; conv => whnf) | (refine BuildP.frz ⟨rfl, ?_⟩; conv => whnf) | (refine BoxP.row ?_; conv => whnf) | (refine And.intro Nat.zero_lt_one ?_; conv => whnf) | (refine And.intro (Nat.succ_pos _) ?_; conv => whnf) | (refine call_same (hs) rfl ?_; conv => whnf) | fail
  refine ⟨(), _, rfl, Sub.of_check [((0,0,0), .old true (0,0,0))] ?_ (by repeat' first | exact Gen0.emp | exact Gen0.ofH rfl | refine Gen0.put ?_ (by decide) | refine Gen0.put0 ?_ ⟨_, rfl⟩)⟩
  conv => whnf
  (iterate 3 ((all_goals try (conv => whnf)); (repeat' first | exact True.intro | (refine And.intro ?_ ?_) | rfl | exact fun _ h => h | exact .inl rfl | exact none_some | exact .inr ⟨rfl, rfl, fun _ _ => rfl⟩ | exact .inr ⟨rfl, rfl, lt1 rfl⟩ | exact .inr ⟨rfl, rfl, lt2 rfl rfl⟩ | exact .inr ⟨rfl, rfl, lt3 rfl rfl rfl⟩ | fail)))
theorem strict_divY (a b : GV) (hk : allKind 3 [a, b] = true) (ha : inInt a.int = true) (h0 : ¬ b.int = 0) (h : inInt (a.int.tdiv b.int) = true) (doc : GV) (k : Int) : RsSpec 395 [.ptr (0,0,0) 0 0, .str oDivide, .lz (.gl [a, b])] doc k (.ok (gInt (a.int.tdiv b.int)) k) := by
  have hs := div_yes a.int b.int ha h0 h
  generalize gInt (a.int.tdiv b.int) = r at *
  refine MSpec.of_WC cxA_ok Tryz.func395 rfl Tryz.call395 (Nat.le_of_ble_eq_true rfl) (g := 1) ?_
  conv => whnf
  repeat' first | (refine RegP.enter ?_; conv => whnf) | (refine DrawP.range (by kernel_rfl) ?_; conv => whnf) | (refine BuildP.frz ⟨rfl, ?_⟩; conv => whnf) | (refine BoxP.row ?_; conv => whnf) | (refine And.intro Nat.zero_lt_one ?_; conv => whnf) | (refine And.intro (Nat.succ_pos _) ?_; conv => whnf) | (refine call_same (want_ok [a, b] hk) rfl ?_; conv => whnf) | fail
  refine And.intro ((by decide : 1 < 2)) ?_
  conv => whnf
  refine And.intro ((by decide : 1 < 2)) ?_
  conv => whnf
  repeat' first | (refine RegP.enter ?_; conv => whnf) | (refine DrawP.range (by kernel_rfl) ?_; conv => whnf) | (refine BuildP.frz ⟨rfl, ?_⟩; conv => whnf) | (refine BoxP.row ?_; conv => whnf) | (refine And.intro Nat.zero_lt_one ?_; conv => whnf) | (refine And.intro (Nat.succ_pos _) ?_; conv => whnf) | (refine call_same (hs) rfl ?_; conv => whnf) | fail
  refine ⟨(), _, rfl, Sub.of_check [((0,0,0), .old true (0,0,0))] ?_ (by repeat' first | exact Gen0.emp | exact Gen0.ofH rfl | refine Gen0.put ?_ (by decide) | refine Gen0.put0 ?_ ⟨_, rfl⟩)⟩
  conv => whnf
  (iterate 3 ((all_goals try (conv => whnf)); (repeat' first | exact True.intro | (refine And.intro ?_ ?_) | rfl | exact fun _ h => h | exact .inl rfl | exact none_some | exact .inr ⟨rfl, rfl, fun _ _ => rfl⟩ | exact .inr ⟨rfl, rfl, lt1 rfl⟩ | exact .inr ⟨rfl, rfl, lt2 rfl rfl⟩ | exact .inr ⟨rfl, rfl, lt3 rfl rfl rfl⟩ | fail)))
theorem strict_divN (a b : GV) (hk : allKind 3 [a, b] = true) (ha : inInt a.int = true) (h0 : ¬ b.int = 0) (h : inInt (a.int.tdiv b.int) = false) (doc : GV) (k : Int) : RsSpec 395 [.ptr (0,0,0) 0 0, .str oDivide, .lz (.gl [a, b])] doc k (.fail 52 k) := by
  refine MSpec.of_WC cxA_ok Tryz.func395 rfl Tryz.call395 (Nat.le_of_ble_eq_true rfl) (g := 1) ?_
  conv => whnf
  refine RegP.enter ?_
  conv => whnf
  refine RegP.enter ?_
  conv => whnf
  refine RegP.enter ?_
  conv => whnf
  refine RegP.enter ?_
  conv => whnf
  refine RegP.enter ?_
  conv => whnf
  refine RegP.enter ?_
  conv => whnf
  refine RegP.enter ?_
  conv => whnf
  refine call_same (want_ok [a, b] hk) rfl ?_
  conv => whnf
  refine RegP.enter ?_
  conv => whnf
  refine DrawP.rangeQ (fun i => !(Nat.beq i 9)) (by kernel_rfl) ?_
  conv => whnf
  repeat' first | (refine RegP.enter ?_; conv => whnf) | (refine DrawP.range (by kernel_rfl) ?_; conv => whnf) | (refine BuildP.frz ⟨rfl, ?_⟩; conv => whnf) | (refine BoxP.row ?_; conv => whnf) | (refine And.intro Nat.zero_lt_one ?_; conv => whnf) | (refine And.intro (Nat.succ_pos _) ?_; conv => whnf) | fail
  refine And.intro ((by decide : 1 < 2)) ?_
  conv => whnf
  refine And.intro ((by decide : 1 < 2)) ?_
  conv => whnf
  repeat' first | (refine RegP.enter ?_; conv => whnf) | (refine DrawP.range (by kernel_rfl) ?_; conv => whnf) | (refine BuildP.frz ⟨rfl, ?_⟩; conv => whnf) | (refine BoxP.row ?_; conv => whnf) | (refine And.intro Nat.zero_lt_one ?_; conv => whnf) | (refine And.intro (Nat.succ_pos _) ?_; conv => whnf) | fail
  refine call_mm [] 1 67 (div_no a.int b.int ha h0 h) ?_ ?_ ?_
  · conv => whnf
    (iterate 3 ((all_goals try (conv => whnf)); (repeat' first | exact True.intro | (refine And.intro ?_ ?_) | rfl | exact fun _ h => h | exact .inl rfl | exact none_some | exact .inr ⟨rfl, rfl, fun _ _ => rfl⟩ | exact .inr ⟨rfl, rfl, lt1 rfl⟩ | exact .inr ⟨rfl, rfl, lt2 rfl rfl⟩ | exact .inr ⟨rfl, rfl, lt3 rfl rfl rfl⟩ | fail)))
  · intro _; conv => whnf
    (iterate 3 ((all_goals try (conv => whnf)); (repeat' first | exact True.intro | (refine And.intro ?_ ?_) | rfl | exact fun _ h => h | exact .inl rfl | exact none_some | exact .inr ⟨rfl, rfl, fun _ _ => rfl⟩ | exact .inr ⟨rfl, rfl, lt1 rfl⟩ | exact .inr ⟨rfl, rfl, lt2 rfl rfl⟩ | exact .inr ⟨rfl, rfl, lt3 rfl rfl rfl⟩ | fail)))
  intro x; conv => whnf
  refine ⟨(), _, rfl, Sub.of_check [((0,0,0), .old true (0,0,0))] ?_ (by repeat' first | exact Gen0.emp | exact Gen0.ofH rfl | refine Gen0.put ?_ (by decide) | refine Gen0.put0 ?_ ⟨_, rfl⟩)⟩
  conv => whnf
  (iterate 3 ((all_goals try (conv => whnf)); (repeat' first | exact True.intro | (refine And.intro ?_ ?_) | rfl | exact fun _ h => h | exact .inl rfl | exact none_some | exact .inr ⟨rfl, rfl, fun _ _ => rfl⟩ | exact .inr ⟨rfl, rfl, lt1 rfl⟩ | exact .inr ⟨rfl, rfl, lt2 rfl rfl⟩ | exact .inr ⟨rfl, rfl, lt3 rfl rfl rfl⟩ | fail)))
end Go.Eng
namespace Go.Eng
open Go.Proofs
set_option maxRecDepth 10000
theorem sumL_bd : ∀ (l : List GV) (n k : Int), StepOk k → RsBd k (numR (sumL n l k))
  | [], _, k, hk => ⟨Int.le_refl k, hk⟩
  | v :: l, n, k, hk => by
    unfold sumL
    cases inInt (n + v.int) with
    | true => exact sumL_bd l _ k hk
    | false => exact hk
theorem mulL_bd : ∀ (l : List GV) (n k : Int), StepOk k → RsBd k (numR (mulL n l k))
  | [], _, k, hk => ⟨Int.le_refl k, hk⟩
  | v :: l, n, k, hk => by
    unfold mulL
    cases inInt (n * v.int) with
    | true => exact mulL_bd l _ k hk
    | false => exact hk
theorem numM_bd {n k : Int} (hk : StepOk k) : RsBd k (numM n k) := by
  unfold numM
  cases inInt n with
  | true => exact ⟨Int.le_refl k, hk⟩
  | false => exact hk
theorem stOk : StOk OI := by
  intro op l doc k hk
  show RsSpec 395 _ doc k (strictI op l k) ∧ RsBd k (strictI op l k)
  unfold strictI
  cases h3 : allKind 3 l with
  | false => exact ⟨trivial, trivial⟩
  | true =>
    cases hi0 : l.all (fun g => inInt g.int) with
    | false => exact ⟨trivial, trivial⟩
    | true =>
    have hi : ∀ g, g ∈ l → inInt g.int = true := List.all_eq_true.1 hi0
    have hk3 : ∀ g, g ∈ l → g.kind = 3 := fun g hg => by simpa using List.all_eq_true.1 h3 g hg
    cases h1 : decide (op = oAdd) with
    | true =>
      have := of_decide_eq_true h1
      subst this
      match l, h3, hi with
      | [], _, _ => exact ⟨trivial, trivial⟩
      | v :: r, h3, hi => exact ⟨strict_add v r h3 hi doc k, sumL_bd r v.int k hk⟩
    | false =>
    cases h2 : decide (op = oSubtract) with
    | true =>
      have := of_decide_eq_true h2
      subst this
      match l, hk3, hi with
      | [], _, _ => exact ⟨trivial, trivial⟩
      | [_], _, _ => exact ⟨trivial, trivial⟩
      | [a, b], hk3, hi => exact ⟨strict_sub a b (hk3 a (by simp)) (hk3 b (by simp)) (hi a (by simp)) (hi b (by simp)) doc k, numM_bd hk⟩
      | _ :: _ :: _ :: _, _, _ => exact ⟨trivial, trivial⟩
    | false =>
    cases h4 : decide (op = oMultiply) with
    | true =>
      have := of_decide_eq_true h4
      subst this
      match l, h3, hi with
      | [], _, _ => exact ⟨trivial, trivial⟩
      | v :: r, h3, hi => exact ⟨strict_mul v r h3 hi doc k, mulL_bd r v.int k hk⟩
    | false =>
    cases h5 : decide (op = oMod) with
    | true =>
      have := of_decide_eq_true h5
      subst this
      match l, h3, hi with
      | [], _, _ => exact ⟨trivial, trivial⟩
      | [_], _, _ => exact ⟨trivial, trivial⟩
      | [a, b], h3, hi =>
        cases hz : decide (b.int = 0) with
        | true => 
          show RsSpec 395 _ doc k (match decide (b.int = 0) with | true => .fail 53 k | false => .ok (gInt (a.int.tmod b.int)) k) ∧ RsBd k (match decide (b.int = 0) with | true => .fail 53 k | false => .ok (gInt (a.int.tmod b.int)) k)
          rw [hz]
          exact ⟨strict_oMod0 a b h3 (of_decide_eq_true hz) doc k, hk⟩
        | false =>
          show RsSpec 395 _ doc k (match decide (b.int = 0) with | true => .fail 53 k | false => .ok (gInt (a.int.tmod b.int)) k) ∧ RsBd k (match decide (b.int = 0) with | true => .fail 53 k | false => .ok (gInt (a.int.tmod b.int)) k)
          rw [hz]
          exact ⟨strict_mod a b h3 (of_decide_eq_false hz) doc k, Int.le_refl k, hk⟩
      | _ :: _ :: _ :: _, _, _ => exact ⟨trivial, trivial⟩
    | false =>
    cases h6 : decide (op = oDivide) with
    | true =>
      have := of_decide_eq_true h6
      subst this
      match l, h3, hi with
      | [], _, _ => exact ⟨trivial, trivial⟩
      | [_], _, _ => exact ⟨trivial, trivial⟩
      | [a, b], h3, hi =>
        show RsSpec 395 _ doc k (match decide (b.int = 0) with | true => .fail 53 k | false => numM (a.int.tdiv b.int) k) ∧ RsBd k (match decide (b.int = 0) with | true => .fail 53 k | false => numM (a.int.tdiv b.int) k)
        cases hz : decide (b.int = 0) with
        | true => exact ⟨strict_oDivide0 a b h3 (of_decide_eq_true hz) doc k, hk⟩
        | false =>
          refine ⟨?_, numM_bd hk⟩
          show RsSpec 395 _ doc k (numM (a.int.tdiv b.int) k)
          unfold numM
          cases hin : inInt (a.int.tdiv b.int) with
          | true => exact strict_divY a b h3 (hi a (by simp)) (of_decide_eq_false hz) hin doc k
          | false => exact strict_divN a b h3 (hi a (by simp)) (of_decide_eq_false hz) hin doc k
      | _ :: _ :: _ :: _, _, _ => exact ⟨trivial, trivial⟩
    | false => exact ⟨trivial, trivial⟩
/-- Work of numbers. -/
theorem evalI_ok (n : Nat) : EvOk (evalP OI n) := evalP_ok loOk stOk n
end Go.Eng
namespace Go.Eng
open Go.Proofs Go.RowKit Go.Extern.Stop Go.Stop Go.Extern
set_option maxRecDepth 10000
def firstOf : Option Code → Code | some (.seq a _) => a | _ => .skip
def secondOf : Option Code → Code | some (.seq _ (.seq b _)) => b | _ => .skip
def restOf : Option Code → Code | some (.seq _ (.seq _ c)) => c | _ => .skip
def behind : Option Code → Code | some (.seq _ c) => c | _ => .skip
/-- What the caller of expr.Eval finds in its two results' variables. -/
def evalH (v : GV) (e : Int) : List (Id × Row) := [((0,4,0), .cells 5 80 [v.cells]), ((0,5,0), .cells 1 8 [[.int e]])]
def evalT : List (Nat × AV) := [(4, .ptr (0,4,0) 0 0), (5, .ptr (0,5,0) 0 0)]
def evalK (r : Rs GV) (e : AX) (T : TT) (H : HH) : Prop := match r with
  | .ok g _ => e = .ret ∧ Sub T H (ofL evalT) (ofH (evalH g 0))
  | .fail n _ => e = .panic (stopAV n) ∧ Sub T H (ofL evalT) (ofH (evalH gZero 0))
  | .unk => False
theorem eval_walk {ev : Nd → GV → List (ByteArray × GV) → Int → Rs GV} (hev : EvOk ev) (x : Nd) (doc : GV) (hu : stepF ev x doc [] 0 ≠ .unk) :
    WC cxA 18 0 (firstOf Tryz.f69.body) (argT 0 [exprAV x, .agg doc.cells]) HH.emp (fun e T H => e = .normal ∧ T 4 = some (.ptr (0,4,0) 0 0) ∧ T 5 = some (.ptr (0,5,0) 0 0) ∧ T 7 = none ∧ WC cxA 18 1 (restOf Tryz.f69.body) T H (evalK (stepF ev x doc [] 0))) := by
  have hs := (step_ok hev x doc [] 0 ⟨Int.le_refl _, by decide⟩).1
  generalize stepF ev x doc [] 0 = r at *
  conv => whnf
  refine RegP.enter ?_
  conv => whnf
  refine BoxP.frz ⟨rfl, ?_⟩
  conv => whnf
  refine ⟨rfl, rfl, rfl, rfl, ?_⟩
  conv => whnf
  repeat' first | (refine RegP.enter ?_; conv => whnf) | (refine DrawP.range (by kernel_rfl) ?_; conv => whnf) | (refine BuildP.frz ⟨rfl, ?_⟩; conv => whnf) | (refine BoxP.row ?_; conv => whnf) | (refine And.intro Nat.zero_lt_one ?_; conv => whnf) | (refine And.intro (Nat.succ_pos _) ?_; conv => whnf) | fail
  cases r with
  | unk => exact absurd rfl hu
  | ok g k =>
    refine call_mm [((0,0,0), .old true (1,10,0))] 1 16 (hs) ?_ ?_ ?_
    · conv => whnf
      (iterate 3 ((all_goals try (conv => whnf)); (repeat' first | exact True.intro | (refine And.intro ?_ ?_) | rfl | exact fun _ h => h | exact .inl rfl | exact none_some | exact .inr ⟨rfl, rfl, fun _ _ => rfl⟩ | exact .inr ⟨rfl, rfl, lt1 rfl⟩ | exact .inr ⟨rfl, rfl, lt2 rfl rfl⟩ | exact .inr ⟨rfl, rfl, lt3 rfl rfl rfl⟩ | fail)))
      all_goals first | exact leK_refl _ (idf_av _) | trace_state
    · intro _; conv => whnf
      (iterate 3 ((all_goals try (conv => whnf)); (repeat' first | exact True.intro | (refine And.intro ?_ ?_) | rfl | exact fun _ h => h | exact .inl rfl | exact none_some | exact .inr ⟨rfl, rfl, fun _ _ => rfl⟩ | exact .inr ⟨rfl, rfl, lt1 rfl⟩ | exact .inr ⟨rfl, rfl, lt2 rfl rfl⟩ | exact .inr ⟨rfl, rfl, lt3 rfl rfl rfl⟩ | fail)))
    intro x; conv => whnf
    repeat' first | (refine RegP.enter ?_; conv => whnf) | (refine DrawP.range (by kernel_rfl) ?_; conv => whnf) | (refine BuildP.frz ⟨rfl, ?_⟩; conv => whnf) | (refine BoxP.row ?_; conv => whnf) | (refine And.intro Nat.zero_lt_one ?_; conv => whnf) | (refine And.intro (Nat.succ_pos _) ?_; conv => whnf) | (refine call_same (clone_ok g) rfl ?_; conv => whnf) | fail
    refine ⟨rfl, Sub.of_check [((0,4,0), .old true (0,4,0)), ((0,5,0), .old true (0,5,0))] ?_ (by repeat' first | exact Gen0.emp | exact Gen0.ofH rfl | refine Gen0.put ?_ (by decide) | refine Gen0.put0 ?_ ⟨_, rfl⟩)⟩
    conv => whnf
    (iterate 3 ((all_goals try (conv => whnf)); (repeat' first | exact True.intro | (refine And.intro ?_ ?_) | rfl | exact fun _ h => h | exact .inl rfl | exact none_some | exact .inr ⟨rfl, rfl, fun _ _ => rfl⟩ | exact .inr ⟨rfl, rfl, lt1 rfl⟩ | exact .inr ⟨rfl, rfl, lt2 rfl rfl⟩ | exact .inr ⟨rfl, rfl, lt3 rfl rfl rfl⟩ | fail)))
  | fail e k =>
    refine call_mm [((0,0,0), .old true (1,10,0))] 1 16 (hs) ?_ ?_ ?_
    · conv => whnf
      (iterate 3 ((all_goals try (conv => whnf)); (repeat' first | exact True.intro | (refine And.intro ?_ ?_) | rfl | exact fun _ h => h | exact .inl rfl | exact none_some | exact .inr ⟨rfl, rfl, fun _ _ => rfl⟩ | exact .inr ⟨rfl, rfl, lt1 rfl⟩ | exact .inr ⟨rfl, rfl, lt2 rfl rfl⟩ | exact .inr ⟨rfl, rfl, lt3 rfl rfl rfl⟩ | fail)))
      all_goals first | exact leK_refl _ (idf_av _) | trace_state
    · intro _; conv => whnf
      (iterate 3 ((all_goals try (conv => whnf)); (repeat' first | exact True.intro | (refine And.intro ?_ ?_) | rfl | exact fun _ h => h | exact .inl rfl | exact none_some | exact .inr ⟨rfl, rfl, fun _ _ => rfl⟩ | exact .inr ⟨rfl, rfl, lt1 rfl⟩ | exact .inr ⟨rfl, rfl, lt2 rfl rfl⟩ | exact .inr ⟨rfl, rfl, lt3 rfl rfl rfl⟩ | fail)))
    intro x; conv => whnf
    refine ⟨rfl, Sub.of_check [((0,4,0), .old true (0,4,0)), ((0,5,0), .old true (0,5,0))] ?_ (by repeat' first | exact Gen0.emp | exact Gen0.ofH rfl | refine Gen0.put ?_ (by decide) | refine Gen0.put0 ?_ ⟨_, rfl⟩)⟩
    conv => whnf
    (iterate 3 ((all_goals try (conv => whnf)); (repeat' first | exact True.intro | (refine And.intro ?_ ?_) | rfl | exact fun _ h => h | exact .inl rfl | exact none_some | exact .inr ⟨rfl, rfl, fun _ _ => rfl⟩ | exact .inr ⟨rfl, rfl, lt1 rfl⟩ | exact .inr ⟨rfl, rfl, lt2 rfl rfl⟩ | exact .inr ⟨rfl, rfl, lt3 rfl rfl rfl⟩ | fail)))
theorem eval_end (v : GV) (e : Int) : resE cxA (ofL evalT) (ofH (evalH v e)) Tryz.f69.results.toList (fun l => retP (.ret (.tup [.agg v.cells, .int e])) (oneOf l) (ofH (evalH v e))) := by
  conv => whnf
  repeat' first | (refine RegP.enter ?_; conv => whnf) | (refine DrawP.range (by kernel_rfl) ?_; conv => whnf) | (refine BuildP.frz ⟨rfl, ?_⟩; conv => whnf) | (refine BoxP.row ?_; conv => whnf) | (refine And.intro Nat.zero_lt_one ?_; conv => whnf) | (refine And.intro (Nat.succ_pos _) ?_; conv => whnf) | fail
  refine Ent.of_check ?_ rfl
  conv => whnf
  (iterate 3 ((all_goals try (conv => whnf)); (repeat' first | exact True.intro | (refine And.intro ?_ ?_) | rfl | exact fun _ h => h | exact .inl rfl | exact none_some | exact .inr ⟨rfl, rfl, fun _ _ => rfl⟩ | exact .inr ⟨rfl, rfl, lt1 rfl⟩ | exact .inr ⟨rfl, rfl, lt2 rfl rfl⟩ | exact .inr ⟨rfl, rfl, lt3 rfl rfl rfl⟩ | fail)))
end Go.Eng
namespace Go.Eng
open Go.Proofs
set_option maxRecDepth 10000
structure CatchP (v : GV) (e : Int) (ex : AX) (T : TT) (H : HH) : Prop where
  n : ex = .normal
  h : Sub T H (ofL []) (ofH (evalH v e))
def catchT (v : AV) : TT := (argT 0 [.ptr (0,4,0) 0 0, .ptr (0,5,0) 0 0]).put 5 v
theorem idle_walk (v : GV) (e : Int) : WC cxA 14 1 (behind Tryz.f132.body) (catchT (.lit .nilIface)) (ofH (evalH v e)) (CatchP v e) := by
  conv => whnf
  repeat' first | (refine RegP.enter ?_; conv => whnf) | (refine DrawP.range (by kernel_rfl) ?_; conv => whnf) | (refine BuildP.frz ⟨rfl, ?_⟩; conv => whnf) | (refine BoxP.row ?_; conv => whnf) | (refine And.intro Nat.zero_lt_one ?_; conv => whnf) | (refine And.intro (Nat.succ_pos _) ?_; conv => whnf) | fail
  refine ⟨rfl, Sub.of_check [((0,4,0), .old true (0,4,0)), ((0,5,0), .old true (0,5,0))] ?_ (by repeat' first | exact Gen0.emp | exact Gen0.ofH rfl | refine Gen0.put ?_ (by decide) | refine Gen0.put0 ?_ ⟨_, rfl⟩)⟩
  conv => whnf
  (iterate 3 ((all_goals try (conv => whnf)); (repeat' first | exact True.intro | (refine And.intro ?_ ?_) | rfl | exact fun _ h => h | exact .inl rfl | exact none_some | exact .inr ⟨rfl, rfl, fun _ _ => rfl⟩ | exact .inr ⟨rfl, rfl, lt1 rfl⟩ | exact .inr ⟨rfl, rfl, lt2 rfl rfl⟩ | exact .inr ⟨rfl, rfl, lt3 rfl rfl rfl⟩ | fail)))
theorem catch_walk (e : Int) : WC cxA 14 1 (behind Tryz.f132.body) (catchT (stopAV e)) (ofH (evalH gZero 0)) (CatchP gZero e) := by
  conv => whnf
  refine RegP.enter ?_
  conv => whnf
  refine RegP.enter ?_
  conv => whnf
  refine RegP.enter ?_
  conv => whnf
  refine RegP.enter ?_
  conv => whnf
  refine DrawP.all ?_
  conv => whnf
  repeat' first | (refine And.intro Nat.zero_lt_one ?_; conv => whnf) | (refine And.intro ?_ ?_ <;> (conv => whnf)) | (refine ⟨rfl, Sub.of_check [((0,4,0), .old true (0,4,0)), ((0,5,0), .old true (0,5,0))] ?_ (by repeat' first | exact Gen0.emp | exact Gen0.ofH rfl | refine Gen0.put ?_ (by decide) | refine Gen0.put0 ?_ ⟨_, rfl⟩)⟩) | fail
  all_goals (conv => whnf)
  (iterate 3 ((all_goals try (conv => whnf)); (repeat' first | exact True.intro | (refine And.intro ?_ ?_) | rfl | exact fun _ h => h | exact .inl rfl | exact none_some | exact .inr ⟨rfl, rfl, fun _ _ => rfl⟩ | exact .inr ⟨rfl, rfl, lt1 rfl⟩ | exact .inr ⟨rfl, rfl, lt2 rfl rfl⟩ | exact .inr ⟨rfl, rfl, lt3 rfl rfl rfl⟩ | fail)))
end Go.Eng
namespace Go.Eng
open Go.Proofs Go.RowKit Go.Extern.Stop Go.Stop Go.Extern
set_option maxRecDepth 10000
theorem ntmps132 : Tryz.f132.ntmps = 14 := rfl
theorem body132 : Tryz.f132.body = some ((firstOf Tryz.f132.body).seq (behind Tryz.f132.body)) := rfl
theorem first132 : ∃ id o, firstOf Tryz.f132.body = .region id #[o] false ∧ o.dst = some 5 ∧ o.guard = none ∧ ∀ (ρ : Operand → Value) (w : World), (execOp ρ o).run Tryz.prog w = .ok .recover w := ⟨_, _, rfl, rfl, rfl, fun _ _ => rfl⟩
theorem caught {w : World} {μ : Id → Option Loc} {F : Nat → Prop} {p q x : Value} (e : Int) (hH : HRep w μ F (ofH (evalH gZero 0))) (hG : GOK cxA w F) (hp : Rep w μ F (.ptr (0,4,0) 0 0) p) (hq : Rep w μ F (.ptr (0,5,0) 0 0) q) (hx : Rep w μ F (stopAV e) x) :
    CallsD Tryz.prog 132 #[p, q] (.panicking [{ v := x, recovered := false }]) w (fun en u' w' => (∃ vv, en = .returned vv) ∧ settle u' = .returning ∧ ∃ μ' F', HRep w' μ' F' (ofH (evalH gZero e)) ∧ GOK cxA w' F' ∧ FrB w μ F (ofH (evalH gZero 0)) w' μ' F' (ofH (evalH gZero e))) := by
  refine callsD_of_wpS Tryz.func132 body132 fun c₀ cs hu => ?_
  obtain ⟨id, o, h1, h2, h3, h4⟩ := first132
  rw [h1]
  refine wpS_seq (wpS_region ?_)
  have hw : Region.wanted o (yielded #[o] ({ tmps := #[p, q] ++ Array.replicate (Tryz.f132.ntmps - (#[p, q] : Array Value).size) undef, defers := [] } : Act).tmps) = true := by
    unfold Region.wanted; rw [h3]
  show wpOpsS Tryz.prog #[o] _ [0] _ _ _
  unfold wpOpsS
  simp only [List.getElem?_toArray, List.getElem?_cons_zero]
  rw [if_pos hw, h4]
  simp only [recoverD, hu, wpOpsS, Exit.thenS, h2]
  have s := entry_sim (cx := cxA) (nt := 14) false hH hG (All2.cons hp (All2.cons hq All2.nil)) (by decide)
  have s1 := s.put (d := 5) (by decide) hx hH hG ⟨rfl, rfl, rfl, Nat.le_refl _, fun _ _ _ => rfl, fun _ _ h => h, fun _ h => h, fun _ h => .inl h, fun _ h => .inr h⟩
  refine wpS_of_wp (wp_mono (WC_sound cxA_ok _ (.inr rfl) 1 _ _ _ (catch_walk e) _ _ _ _ s1) ?_)
  rintro en a' w' ⟨ae, T, H, μ', F', ⟨rfl, hsub⟩, s', hr⟩
  cases hr
  obtain ⟨μ2, F2, s2⟩ := s'.sub hsub
  obtain ⟨vv, _, hrun, _, _⟩ := EndK_ret cxA_ok (fn := Tryz.f132) (K := fun _ _ => True) s2 (by exact trivial)
  exact ⟨s2.d.e rfl, _, rfl, vv, hrun, ⟨_, rfl⟩, rfl, μ2, F2, s2.h, s2.g, s2.f⟩
theorem idle {w : World} {μ : Id → Option Loc} {F : Nat → Prop} {p q : Value} (v : GV) (e : Int) (hH : HRep w μ F (ofH (evalH v e))) (hG : GOK cxA w F) (hp : Rep w μ F (.ptr (0,4,0) 0 0) p) (hq : Rep w μ F (.ptr (0,5,0) 0 0) q) :
    CallsD Tryz.prog 132 #[p, q] .returning w (fun en u' w' => (∃ vv, en = .returned vv) ∧ settle u' = .returning ∧ ∃ μ' F', HRep w' μ' F' (ofH (evalH v e)) ∧ GOK cxA w' F' ∧ FrB w μ F (ofH (evalH v e)) w' μ' F' (ofH (evalH v e))) := by
  refine callsD_of_wpS Tryz.func132 body132 fun c₀ cs hu => ?_
  obtain ⟨id, o, h1, h2, h3, h4⟩ := first132
  rw [h1]
  refine wpS_seq (wpS_region ?_)
  have hw : Region.wanted o (yielded #[o] ({ tmps := #[p, q] ++ Array.replicate (Tryz.f132.ntmps - (#[p, q] : Array Value).size) undef, defers := [] } : Act).tmps) = true := by
    unfold Region.wanted; rw [h3]
  show wpOpsS Tryz.prog #[o] _ [0] _ _ _
  unfold wpOpsS
  simp only [List.getElem?_toArray, List.getElem?_cons_zero]
  rw [if_pos hw, h4]
  simp only [recoverD, hu, wpOpsS, Exit.thenS, h2]
  have s := entry_sim (cx := cxA) (nt := 14) false hH hG (All2.cons hp (All2.cons hq All2.nil)) (by decide)
  have s1 := s.put (d := 5) (av := .lit .nilIface) (v := .nilIface) (by decide) (.frz (.lit (show Plain .nilIface from trivial))) hH hG ⟨rfl, rfl, rfl, Nat.le_refl _, fun _ _ _ => rfl, fun _ _ h => h, fun _ h => h, fun _ h => .inl h, fun _ h => .inr h⟩
  refine wpS_of_wp (wp_mono (WC_sound cxA_ok _ (.inr rfl) 1 _ _ _ (idle_walk v e) _ _ _ _ s1) ?_)
  rintro en a' w' ⟨ae, T, H, μ', F', ⟨rfl, hsub⟩, s', hr⟩
  cases hr
  obtain ⟨μ2, F2, s2⟩ := s'.sub hsub
  obtain ⟨vv, _, hrun, _, _⟩ := EndK_ret cxA_ok (fn := Tryz.f132) (K := fun _ _ => True) s2 (by exact trivial)
  exact ⟨s2.d.e rfl, .returning, by cases c₀; simp_all, vv, hrun, ⟨_, rfl⟩, rfl, μ2, F2, s2.h, s2.g, s2.f⟩
end Go.Eng
namespace Go.Eng
open Go.Proofs Go.RowKit Go.Extern.Stop Go.Stop Go.Extern
set_option maxRecDepth 10000
theorem body69 : Tryz.f69.body = some ((firstOf Tryz.f69.body).seq ((secondOf Tryz.f69.body).seq (restOf Tryz.f69.body))) := rfl
theorem second69 : ∃ id o1 o2, secondOf Tryz.f69.body = .region id #[o1, o2] false ∧ o1.dst = some 7 ∧ o1.guard = none ∧ o2.dst = none ∧ o2.guard = none ∧
    (∀ (a : Act) (w : World), (execOp a.eval o1).run Tryz.prog w = .ok (.value (.func (.func 132) #[] #[a.tmps.getD 4 undef, a.tmps.getD 5 undef])) w) ∧
    (∀ (a : Act) (w : World) (p q : Value), a.tmps.getD 7 undef = .func (.func 132) #[] #[p, q] → (execOp a.eval o2).run Tryz.prog w = .ok (.defer { target := .fn (.func 132) #[p, q], args := #[] }) w) := by
  refine ⟨_, _, _, rfl, rfl, rfl, rfl, rfl, fun a w => ?_, fun a w p q h => ?_⟩
  · have hmf : ∀ (fn : Fn) (first cap : Array Value) (w : World), (Instr.makeFunc fn first cap).run Tryz.prog w = .ok (.func fn first cap) w := fun _ _ _ _ => rfl
    simp [execOp, Act.eval, hmf, Sem.run_bind]
  show (resolve a.eval _ _ >>= fun d => pure (.defer d) : Sem Next).run Tryz.prog w = _
  simp only [resolve, Act.eval, h]
  simp [Deferred.ofValue, Sem.run_bind, go_sem]
def outR : Rs GV → GV × Int
  | .ok g _ => (g, 0)
  | .fail n _ => (gZero, n)
  | .unk => (gZero, 0)
theorem FrB.refl (w : World) (μ : Id → Option Loc) (F : Nat → Prop) (H : HH) : FrB w μ F H w μ F H := ⟨rfl, rfl, rfl, Nat.le_refl _, fun _ _ _ => rfl, fun _ _ _ h => h, fun _ h => h, fun _ h => .inl h, fun _ h => .inr h⟩
theorem ptr_mono {w w' : World} {μ μ' : Id → Option Loc} {F F' : Nat → Prop} {r : Id} {i j : Nat} {v : Value} (h : Rep w μ F (.ptr r i j) v) (hm : ∀ l, μ r = some l → μ' r = some l) : Rep w' μ' F' (.ptr r i j) v := by
  cases h with
  | frz h => cases h
  | ptr h1 h2 => exact .ptr (hm _ h1) h2
theorem eval_fin {w w1 w' w'' : World} {F F1 F3 F5 : Nat → Prop} {μ1 μ3 μ5 : Id → Option Loc} {H1 : HH} {a' : Act} {ds : List Deferred} {v0 v : GV} {e0 e : Int}
    (f1 : FrB w (fun _ => none) F HH.emp w1 μ1 F1 H1) (s4 : SimX cxA 18 ⟨w1, μ1, F1, H1, ds, false⟩ (ofL evalT) (ofH (evalH v0 e0)) a' w' μ3 F3) (h5 : HRep w'' μ5 F5 (ofH (evalH v e))) (g5 : GOK cxA w'' F5) (f5 : FrB w' μ3 F3 (ofH (evalH v0 e0)) w'' μ5 F5 (ofH (evalH v e))) :
    ∃ x, (results Tryz.f69 a'.tmps).run Tryz.prog w'' = .ok x w'' ∧ ∃ F', EndF w'' F' (.ret (.tup [.agg v.cells, .int e])) (.returned x) ∧ FrF w F w'' F' := by
  have s6 : SimX cxA 18 ⟨w'', μ5, F5, ofH (evalH v e), a'.defers, false⟩ (ofL evalT) (ofH (evalH v e)) a' w'' μ5 F5 := by
    refine ⟨h5, g5, fun t av ht => ?_, s4.b, s4.n, Marks.none (E := ⟨w'', μ5, F5, ofH (evalH v e), a'.defers, false⟩), .refl _ _ _ _⟩
    have ht' := ht
    simp only [evalT, ofL] at ht
    by_cases e5 : t = 4
    · subst e5
      have h4 := s4.t 4 _ ht'
      rw [TT.put_same] at ht
      cases ht
      exact ptr_mono h4 fun l h => f5.mu _ _ rfl h
    · rw [TT.put_ne _ _ e5] at ht
      by_cases e6 : t = 5
      · subst e6
        have h4 := s4.t 5 _ ht'
        rw [TT.put_same] at ht
        cases ht
        exact ptr_mono h4 fun l h => f5.mu _ _ rfl h
      · rw [TT.put_ne _ _ e6] at ht
        cases ht
  obtain ⟨x, av, hrun, hK, hrep⟩ := EndK_ret cxA_ok s6 (eval_end v e)
  have f := f1.trans (s4.f.trans f5)
  have nl : ∀ b, ¬ Lv (fun _ => none) HH.emp b := fun b ⟨r, row, l, h, _⟩ => by cases h
  refine ⟨x, hrun, fun b => F5 b ∨ Lv μ5 (ofH (evalH v e)) b, .ret (hK _ _ _ _ h5 hrep), f.os, f.tape, f.output, f.size, fun b hb => f.keep b hb (nl b), fun b hb => ?_, fun b hb => hb.elim (h5.lt b) h5.row_lt⟩
  rcases hb with hb | hb
  · exact (f.fr' b hb).elim .inl fun h => h.elim .inr fun h => absurd h (nl b)
  · exact (f.lv b hb).elim .inr fun h => absurd h (nl b)
theorem eval_ok {ev : Nd → GV → List (ByteArray × GV) → Int → Rs GV} (hev : EvOk ev) (x : Nd) (doc : GV) (hu : stepF ev x doc [] 0 ≠ .unk) :
    PSpec cxA 69 [exprAV x, .agg doc.cells] (.ret (.tup [.agg (outR (stepF ev x doc [] 0)).1.cells, .int (outR (stepF ev x doc [] 0)).2])) := by
  intro w F vs hF hG ha
  have hwalk := eval_walk hev x doc hu
  generalize stepF ev x doc [] 0 = r at *
  have h0 := HRep.emp (w := w) hF
  have ha' : All2 (Rep w (fun _ => none) F) [exprAV x, .agg doc.cells] vs := ha.imp fun _ _ h => .frz h
  unfold CallsX
  have hc : (callFunc 69 ⟨vs⟩).run cxA.P w = .ok (.enter 69 ⟨vs⟩) w := Tryz.call69 _ w
  rw [hc]
  show Calls Tryz.prog 69 ⟨vs⟩ w _
  refine calls_of_wp_defers Tryz.func69 body69 ?_
  refine wp_seq (wp_mono (WC_sound cxA_ok _ (.inr rfl) 0 _ _ _ hwalk _ _ _ _ (entry_sim false h0 hG ha' (by show 2 ≤ 18; decide))) ?_)
  rintro e1 a1 w1 ⟨ae, T1, H1, μ1, F1, ⟨rfl, t4, t5, t7, hrest⟩, s1, hr1⟩
  cases hr1
  show (Code.seq (secondOf Tryz.f69.body) (restOf Tryz.f69.body)).wp _ _ a1 w1
  obtain ⟨id, o1, o2, g1, g2, g3, g4, g5, g6, g7⟩ := second69
  rw [g1]
  refine wp_seq (wp_region ?_)
  show wpOps Tryz.prog #[o1, o2] _ [0, 1] a1 w1
  have hw1 : ∀ a : Act, Region.wanted o1 (yielded #[o1, o2] a.tmps) = true := fun a => by unfold Region.wanted; rw [g3]
  have hw2 : ∀ a : Act, Region.wanted o2 (yielded #[o1, o2] a.tmps) = true := fun a => by unfold Region.wanted; rw [g5]
  have hsz : a1.tmps.size = 18 := s1.n
  let p := a1.tmps.getD 4 undef
  let q := a1.tmps.getD 5 undef
  have hp : Rep w1 μ1 F1 (.ptr (0,4,0) 0 0) p := s1.t 4 _ t4
  have hq : Rep w1 μ1 F1 (.ptr (0,5,0) 0 0) q := s1.t 5 _ t5
  unfold wpOps
  simp only [List.getElem?_toArray, List.getElem?_cons_zero]
  rw [if_pos (hw1 _)]
  refine .inl ?_
  unfold Oper.wp
  rw [g6]
  simp only [Oper.upon, g2]
  unfold wpOps
  simp only [List.getElem?_toArray, List.getElem?_cons_succ, List.getElem?_cons_zero]
  rw [if_pos (hw2 _)]
  refine .inl ?_
  unfold Oper.wp
  rw [g7 _ _ p q (by simp [Act.put, hsz, p, q])]
  simp only [Oper.upon, g4]
  unfold wpOps
  show (restOf Tryz.f69.body).wp _ _ _ w1
  have s2 : SimX cxA 18 ⟨w1, μ1, F1, H1, [{ target := .fn (.func 132) #[p, q], args := #[] }], false⟩ T1 H1 ({ a1.put (some 7) (.func (.func 132) #[] #[p, q]) with defers := { target := .fn (.func 132) #[p, q], args := #[] } :: (a1.put (some 7) (.func (.func 132) #[] #[p, q])).defers } : Act) w1 μ1 F1 := by
    refine ⟨s1.h, s1.g, fun t av ht => ?_, s1.b, by simp [Act.put, hsz], ?_, .refl _ _ _ _⟩
    rotate_left
    · have e : ({ a1.put (some 7) (.func (.func 132) #[] #[p, q]) with defers := { target := .fn (.func 132) #[p, q], args := #[] } :: (a1.put (some 7) (.func (.func 132) #[] #[p, q])).defers } : Act).defers = [{ target := .fn (.func 132) #[p, q], args := #[] }] := by
        show _ :: a1.defers = _
        rw [s1.d.e rfl]
      rw [e]; exact Marks.none (E := ⟨w1, μ1, F1, H1, [{ target := .fn (.func 132) #[p, q], args := #[] }], false⟩)
    · have hne : t ≠ 7 := fun e => by subst e; rw [t7] at ht; cases ht
      have := put_getD a1 7 (.func (.func 132) #[] #[p, q]) (by rw [hsz]; decide) t
      rw [if_neg hne] at this
      show Rep w1 μ1 F1 av ((a1.put (some 7) _).tmps.getD t undef)
      rw [this]
      exact s1.t t av ht
  refine wp_mono (WC_sound cxA_ok _ (.inr rfl) 1 _ _ _ hrest _ _ _ _ s2) ?_
  rintro e2 a' w' ⟨ae, T2, H2, μ2, F2, hk, s3, hr⟩
  have hinv : ∀ w, (invoke (.fn (.func 132) #[p, q]) #[]).run Tryz.prog w = .ok (.enter 132 #[p, q]) w := fun w => Tryz.call132 _ w
  cases r with
  | unk => exact hk.elim
  | ok g k =>
    obtain ⟨rfl, hsub⟩ := hk
    cases hr
    obtain ⟨μ3, F3, s4⟩ := s3.sub hsub
    show Leaves Tryz.prog Tryz.f69 a'.tmps _ a'.defers .returning w'
    rw [s4.d.e rfl]
    refine leaves_cons (f := 132) (args := #[p, q]) (by simp) (hinv _) ((idle g 0 s4.h s4.g (ptr_mono hp fun l h => s4.f.mu _ _ rfl h) (ptr_mono hq fun l h => s4.f.mu _ _ rfl h)).mono ?_)
    rintro en u' w'' ⟨⟨vv, rfl⟩, hset, μ5, F5, h5, g5, f5⟩
    show Leaves Tryz.prog Tryz.f69 a'.tmps _ [] (settle u') w''
    rw [hset]
    exact eval_fin s1.f s4 h5 g5 f5
  | fail n k =>
    obtain ⟨rfl, hsub⟩ := hk
    cases hr
    rename_i xv hxv
    obtain ⟨μ3, F3, s4⟩ := s3.sub hsub
    show Leaves Tryz.prog Tryz.f69 a'.tmps _ a'.defers (.panicking [{ v := xv, recovered := false }]) w'
    rw [s4.d.e rfl]
    have hx : Rep w' μ3 F3 (stopAV n) xv := by
      have hf := idf_frz hxv (show idf (stopAV n) = true from rfl)
      cases hf with
      | ifc h =>
        cases h with
        | agg h1 h2 =>
          refine .frz (.ifc (.agg h1 fun i hi hi' => ?_))
          have h3 := h2 i hi hi'
          have hi0 : i = 0 := by have : i < 1 := hi; omega
          subst hi0
          obtain ⟨he, hpl⟩ := RepF_lit h3
          have := he ▸ h3
          rw [he]
          exact .lit hpl
    refine leaves_cons (f := 132) (args := #[p, q]) (by simp) (hinv _) ((caught n s4.h s4.g (ptr_mono hp fun l h => s4.f.mu _ _ rfl h) (ptr_mono hq fun l h => s4.f.mu _ _ rfl h) hx).mono ?_)
    rintro en u' w'' ⟨⟨vv, rfl⟩, hset, μ5, F5, h5, g5, f5⟩
    show Leaves Tryz.prog Tryz.f69 a'.tmps _ [] (settle u') w''
    rw [hset]
    exact eval_fin s1.f s4 h5 g5 f5
end Go.Eng

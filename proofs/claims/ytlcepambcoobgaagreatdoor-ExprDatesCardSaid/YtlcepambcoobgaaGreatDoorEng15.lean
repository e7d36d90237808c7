/- Eng15: an engine for the program's code, and walks of its functions (Wc Wd). -/
import Derived.Test.YtlcepambcoobgaaGreatDoorEng14
namespace Go.Eng
open Go.Proofs
set_option maxRecDepth 10000
theorem weigh_spec : ∀ (n : Nat) (g : GV), SizeOf.sizeOf g < n → ∀ (a : Int), 0 ≤ a → a ≤ 65536 → ∀ {b : Bool} {r : Int}, WR a g.sz b r →
    MSpec cxA 129 [.ptr (0,0,0) 0 0, .agg g.cells] [((0,0,0), .cells 1 8 [[.int a]])] (fun _ : Unit => .ret (.bool b)) (fun _ => [((0,0,0), .cells 1 8 [[.int r]])]) := by
  intro n
  induction n with
  | zero => intro g h; exact absurd h (Nat.not_lt_zero _)
  | succ n ih =>
  intro g hg a h0 h1 b r hr
  generalize hs : g.sz = sz at hr
  obtain ⟨kind, int, text, list, doc⟩ := g
  have leaf : ∀ (k : Nat), sz = k → MSpec cxA 183 [.ptr (0,0,0) 0 0, .int k] [((0,0,0), .cells 1 8 [[.int a]])] (fun _ : Unit => .ret (.bool b)) (fun _ => [((0,0,0), .cells 1 8 [[.int r]])]) := fun k hk => take_ok a k (by omega) h1 (by omega) (by rw [← hk]; exact hr)
  have two : sz = 5 + text.size → 5 ≤ a → MSpec cxA 183 [.ptr (0,0,0) 0 0, .int text.size] [((0,0,0), .cells 1 8 [[.int (a - 5)]])] (fun _ : Unit => .ret (.bool b)) (fun _ => [((0,0,0), .cells 1 8 [[.int r]])]) := fun hk h5 => take_ok (a - 5) text.size (by omega) (by omega) (by omega) (by
    rcases hr with ⟨h, h2, h3⟩ | ⟨h, h2, h3⟩
    · exact .inl ⟨by omega, h2, by omega⟩
    · exact .inr ⟨by omega, h2, h3⟩)
  have bad : a < sz → b = false ∧ r = -1 := fun h => by
    rcases hr with ⟨h', _⟩ | ⟨_, h2, h3⟩
    · omega
    · exact ⟨h2, h3⟩
  have good : (sz : Int) ≤ a → b = true ∧ r = a - sz := fun h => by
    rcases hr with ⟨_, h2, h3⟩ | ⟨h', _⟩
    · exact ⟨h2, h3⟩
    · omega
  refine MSpec.of_WC cxA_ok Tryz.func129 rfl Tryz.call129 (Nat.le_of_ble_eq_true rfl) (g := 1) ?_
  conv => whnf
  repeat' first | (refine RegP.enter ?_; conv => whnf) | (refine DrawP.range (by kernel_rfl) ?_; conv => whnf) | (refine BuildP.frz ⟨rfl, ?_⟩; conv => whnf) | (refine BoxP.row ?_; conv => whnf) | (refine And.intro Nat.zero_lt_one ?_; conv => whnf) | (refine And.intro (Nat.succ_pos _) ?_; conv => whnf) | fail
  refine br (fun hb => ?_) (fun hb => ?_)
  · try rw [hb]
    conv => whnf
    repeat' first | (refine RegP.enter ?_; conv => whnf) | (refine DrawP.range (by kernel_rfl) ?_; conv => whnf) | (refine BuildP.frz ⟨rfl, ?_⟩; conv => whnf) | (refine BoxP.row ?_; conv => whnf) | (refine And.intro Nat.zero_lt_one ?_; conv => whnf) | (refine And.intro (Nat.succ_pos _) ?_; conv => whnf) | fail
    refine call_mm [((0,0,0), .old true (0,0,0))] 1 15 (leaf 8 (by simp [GV.kind] at hb; rw [← hs]; simp [GV.sz, hb])) ?_ ?_ ?_
    · conv => whnf
      (iterate 3 ((all_goals try (conv => whnf)); (repeat' first | exact True.intro | (refine And.intro ?_ ?_) | rfl | exact fun _ h => h | exact .inl rfl | exact none_some | exact .inr ⟨rfl, rfl, fun _ _ => rfl⟩ | exact .inr ⟨rfl, rfl, lt1 rfl⟩ | exact .inr ⟨rfl, rfl, lt2 rfl rfl⟩ | exact .inr ⟨rfl, rfl, lt3 rfl rfl rfl⟩ | fail)))
    · intro _; conv => whnf
      (iterate 3 ((all_goals try (conv => whnf)); (repeat' first | exact True.intro | (refine And.intro ?_ ?_) | rfl | exact fun _ h => h | exact .inl rfl | exact none_some | exact .inr ⟨rfl, rfl, fun _ _ => rfl⟩ | exact .inr ⟨rfl, rfl, lt1 rfl⟩ | exact .inr ⟨rfl, rfl, lt2 rfl rfl⟩ | exact .inr ⟨rfl, rfl, lt3 rfl rfl rfl⟩ | fail)))
    intro x; conv => whnf
    refine ⟨(), _, rfl, Sub.of_check [((0,0,0), .old true (0,0,0))] ?_ (by repeat' first | exact Gen0.emp | exact Gen0.ofH rfl | refine Gen0.put ?_ (by decide) | refine Gen0.put0 ?_ ⟨_, rfl⟩)⟩
    conv => whnf
    (iterate 3 ((all_goals try (conv => whnf)); (repeat' first | exact True.intro | (refine And.intro ?_ ?_) | rfl | exact fun _ h => h | exact .inl rfl | exact none_some | exact .inr ⟨rfl, rfl, fun _ _ => rfl⟩ | exact .inr ⟨rfl, rfl, lt1 rfl⟩ | exact .inr ⟨rfl, rfl, lt2 rfl rfl⟩ | exact .inr ⟨rfl, rfl, lt3 rfl rfl rfl⟩ | fail)))
  try rw [hb]
  conv => whnf
  repeat' first | (refine RegP.enter ?_; conv => whnf) | (refine DrawP.range (by kernel_rfl) ?_; conv => whnf) | (refine BuildP.frz ⟨rfl, ?_⟩; conv => whnf) | (refine BoxP.row ?_; conv => whnf) | (refine And.intro Nat.zero_lt_one ?_; conv => whnf) | (refine And.intro (Nat.succ_pos _) ?_; conv => whnf) | fail
  refine br (fun hb2 => ?_) (fun hb2 => ?_)
  · try rw [hb2]
    conv => whnf
    repeat' first | (refine RegP.enter ?_; conv => whnf) | (refine DrawP.range (by kernel_rfl) ?_; conv => whnf) | (refine BuildP.frz ⟨rfl, ?_⟩; conv => whnf) | (refine BoxP.row ?_; conv => whnf) | (refine And.intro Nat.zero_lt_one ?_; conv => whnf) | (refine And.intro (Nat.succ_pos _) ?_; conv => whnf) | fail
    refine call_mm [((0,0,0), .old true (0,0,0))] 1 15 (leaf 8 (by simp [GV.kind] at hb hb2; rw [← hs]; simp [GV.sz, hb2])) ?_ ?_ ?_
    · conv => whnf
      (iterate 3 ((all_goals try (conv => whnf)); (repeat' first | exact True.intro | (refine And.intro ?_ ?_) | rfl | exact fun _ h => h | exact .inl rfl | exact none_some | exact .inr ⟨rfl, rfl, fun _ _ => rfl⟩ | exact .inr ⟨rfl, rfl, lt1 rfl⟩ | exact .inr ⟨rfl, rfl, lt2 rfl rfl⟩ | exact .inr ⟨rfl, rfl, lt3 rfl rfl rfl⟩ | fail)))
    · intro _; conv => whnf
      (iterate 3 ((all_goals try (conv => whnf)); (repeat' first | exact True.intro | (refine And.intro ?_ ?_) | rfl | exact fun _ h => h | exact .inl rfl | exact none_some | exact .inr ⟨rfl, rfl, fun _ _ => rfl⟩ | exact .inr ⟨rfl, rfl, lt1 rfl⟩ | exact .inr ⟨rfl, rfl, lt2 rfl rfl⟩ | exact .inr ⟨rfl, rfl, lt3 rfl rfl rfl⟩ | fail)))
    intro x; conv => whnf
    refine ⟨(), _, rfl, Sub.of_check [((0,0,0), .old true (0,0,0))] ?_ (by repeat' first | exact Gen0.emp | exact Gen0.ofH rfl | refine Gen0.put ?_ (by decide) | refine Gen0.put0 ?_ ⟨_, rfl⟩)⟩
    conv => whnf
    (iterate 3 ((all_goals try (conv => whnf)); (repeat' first | exact True.intro | (refine And.intro ?_ ?_) | rfl | exact fun _ h => h | exact .inl rfl | exact none_some | exact .inr ⟨rfl, rfl, fun _ _ => rfl⟩ | exact .inr ⟨rfl, rfl, lt1 rfl⟩ | exact .inr ⟨rfl, rfl, lt2 rfl rfl⟩ | exact .inr ⟨rfl, rfl, lt3 rfl rfl rfl⟩ | fail)))
  try rw [hb2]
  conv => whnf
  repeat' first | (refine RegP.enter ?_; conv => whnf) | (refine DrawP.range (by kernel_rfl) ?_; conv => whnf) | (refine BuildP.frz ⟨rfl, ?_⟩; conv => whnf) | (refine BoxP.row ?_; conv => whnf) | (refine And.intro Nat.zero_lt_one ?_; conv => whnf) | (refine And.intro (Nat.succ_pos _) ?_; conv => whnf) | fail
  refine br (fun hb3 => ?_) (fun hb3 => ?_)
  · have hs2 : sz = 5 + text.size := by simp [GV.kind] at hb hb2 hb3; rw [← hs]; simp [GV.sz, hb3]
    try rw [hb3]
    conv => whnf
    repeat' first | (refine RegP.enter ?_; conv => whnf) | (refine DrawP.range (by kernel_rfl) ?_; conv => whnf) | (refine BuildP.frz ⟨rfl, ?_⟩; conv => whnf) | (refine BoxP.row ?_; conv => whnf) | (refine And.intro Nat.zero_lt_one ?_; conv => whnf) | (refine And.intro (Nat.succ_pos _) ?_; conv => whnf) | fail
    by_cases h5 : 5 ≤ a
    · refine call_mm [((0,0,0), .old true (0,0,0))] 1 20 (take_yes a 5 h1 (by omega) h5) ?_ ?_ ?_
      · conv => whnf
        (iterate 3 ((all_goals try (conv => whnf)); (repeat' first | exact True.intro | (refine And.intro ?_ ?_) | rfl | exact fun _ h => h | exact .inl rfl | exact none_some | exact .inr ⟨rfl, rfl, fun _ _ => rfl⟩ | exact .inr ⟨rfl, rfl, lt1 rfl⟩ | exact .inr ⟨rfl, rfl, lt2 rfl rfl⟩ | exact .inr ⟨rfl, rfl, lt3 rfl rfl rfl⟩ | fail)))
      · intro _; conv => whnf
        (iterate 3 ((all_goals try (conv => whnf)); (repeat' first | exact True.intro | (refine And.intro ?_ ?_) | rfl | exact fun _ h => h | exact .inl rfl | exact none_some | exact .inr ⟨rfl, rfl, fun _ _ => rfl⟩ | exact .inr ⟨rfl, rfl, lt1 rfl⟩ | exact .inr ⟨rfl, rfl, lt2 rfl rfl⟩ | exact .inr ⟨rfl, rfl, lt3 rfl rfl rfl⟩ | fail)))
      intro x; conv => whnf
      refine call_mm [((0,0,0), .old true (0,0,0))] 1 26 (two hs2 h5) ?_ ?_ ?_
      · conv => whnf
        (iterate 3 ((all_goals try (conv => whnf)); (repeat' first | exact True.intro | (refine And.intro ?_ ?_) | rfl | exact fun _ h => h | exact .inl rfl | exact none_some | exact .inr ⟨rfl, rfl, fun _ _ => rfl⟩ | exact .inr ⟨rfl, rfl, lt1 rfl⟩ | exact .inr ⟨rfl, rfl, lt2 rfl rfl⟩ | exact .inr ⟨rfl, rfl, lt3 rfl rfl rfl⟩ | fail)))
      · intro _; conv => whnf
        (iterate 3 ((all_goals try (conv => whnf)); (repeat' first | exact True.intro | (refine And.intro ?_ ?_) | rfl | exact fun _ h => h | exact .inl rfl | exact none_some | exact .inr ⟨rfl, rfl, fun _ _ => rfl⟩ | exact .inr ⟨rfl, rfl, lt1 rfl⟩ | exact .inr ⟨rfl, rfl, lt2 rfl rfl⟩ | exact .inr ⟨rfl, rfl, lt3 rfl rfl rfl⟩ | fail)))
      intro x; conv => whnf
      refine ⟨(), _, rfl, Sub.of_check [((0,0,0), .old true (0,0,0))] ?_ (by repeat' first | exact Gen0.emp | exact Gen0.ofH rfl | refine Gen0.put ?_ (by decide) | refine Gen0.put0 ?_ ⟨_, rfl⟩)⟩
      conv => whnf
      (iterate 3 ((all_goals try (conv => whnf)); (repeat' first | exact True.intro | (refine And.intro ?_ ?_) | rfl | exact fun _ h => h | exact .inl rfl | exact none_some | exact .inr ⟨rfl, rfl, fun _ _ => rfl⟩ | exact .inr ⟨rfl, rfl, lt1 rfl⟩ | exact .inr ⟨rfl, rfl, lt2 rfl rfl⟩ | exact .inr ⟨rfl, rfl, lt3 rfl rfl rfl⟩ | fail)))
    · refine call_mm [((0,0,0), .old true (0,0,0))] 1 20 (take_no a 5 (by omega) h1 (by omega) (by omega)) ?_ ?_ ?_
      · conv => whnf
        (iterate 3 ((all_goals try (conv => whnf)); (repeat' first | exact True.intro | (refine And.intro ?_ ?_) | rfl | exact fun _ h => h | exact .inl rfl | exact none_some | exact .inr ⟨rfl, rfl, fun _ _ => rfl⟩ | exact .inr ⟨rfl, rfl, lt1 rfl⟩ | exact .inr ⟨rfl, rfl, lt2 rfl rfl⟩ | exact .inr ⟨rfl, rfl, lt3 rfl rfl rfl⟩ | fail)))
      · intro _; conv => whnf
        (iterate 3 ((all_goals try (conv => whnf)); (repeat' first | exact True.intro | (refine And.intro ?_ ?_) | rfl | exact fun _ h => h | exact .inl rfl | exact none_some | exact .inr ⟨rfl, rfl, fun _ _ => rfl⟩ | exact .inr ⟨rfl, rfl, lt1 rfl⟩ | exact .inr ⟨rfl, rfl, lt2 rfl rfl⟩ | exact .inr ⟨rfl, rfl, lt3 rfl rfl rfl⟩ | fail)))
      intro x; conv => whnf
      obtain ⟨rfl, rfl⟩ := bad (by omega)
      refine ⟨(), _, rfl, Sub.of_check [((0,0,0), .old true (0,0,0))] ?_ (by repeat' first | exact Gen0.emp | exact Gen0.ofH rfl | refine Gen0.put ?_ (by decide) | refine Gen0.put0 ?_ ⟨_, rfl⟩)⟩
      conv => whnf
      (iterate 3 ((all_goals try (conv => whnf)); (repeat' first | exact True.intro | (refine And.intro ?_ ?_) | rfl | exact fun _ h => h | exact .inl rfl | exact none_some | exact .inr ⟨rfl, rfl, fun _ _ => rfl⟩ | exact .inr ⟨rfl, rfl, lt1 rfl⟩ | exact .inr ⟨rfl, rfl, lt2 rfl rfl⟩ | exact .inr ⟨rfl, rfl, lt3 rfl rfl rfl⟩ | fail)))
  try rw [hb3]
  conv => whnf
  repeat' first | (refine RegP.enter ?_; conv => whnf) | (refine DrawP.range (by kernel_rfl) ?_; conv => whnf) | (refine BuildP.frz ⟨rfl, ?_⟩; conv => whnf) | (refine BoxP.row ?_; conv => whnf) | (refine And.intro Nat.zero_lt_one ?_; conv => whnf) | (refine And.intro (Nat.succ_pos _) ?_; conv => whnf) | fail
  refine br (fun hb4 => ?_) (fun hb4 => ?_)
  · have hs2 : sz = 5 + text.size := by simp [GV.kind] at hb hb2 hb3 hb4; rw [← hs]; simp [GV.sz, hb4]
    try rw [hb4]
    conv => whnf
    repeat' first | (refine RegP.enter ?_; conv => whnf) | (refine DrawP.range (by kernel_rfl) ?_; conv => whnf) | (refine BuildP.frz ⟨rfl, ?_⟩; conv => whnf) | (refine BoxP.row ?_; conv => whnf) | (refine And.intro Nat.zero_lt_one ?_; conv => whnf) | (refine And.intro (Nat.succ_pos _) ?_; conv => whnf) | fail
    by_cases h5 : 5 ≤ a
    · refine call_mm [((0,0,0), .old true (0,0,0))] 1 20 (take_yes a 5 h1 (by omega) h5) ?_ ?_ ?_
      · conv => whnf
        (iterate 3 ((all_goals try (conv => whnf)); (repeat' first | exact True.intro | (refine And.intro ?_ ?_) | rfl | exact fun _ h => h | exact .inl rfl | exact none_some | exact .inr ⟨rfl, rfl, fun _ _ => rfl⟩ | exact .inr ⟨rfl, rfl, lt1 rfl⟩ | exact .inr ⟨rfl, rfl, lt2 rfl rfl⟩ | exact .inr ⟨rfl, rfl, lt3 rfl rfl rfl⟩ | fail)))
      · intro _; conv => whnf
        (iterate 3 ((all_goals try (conv => whnf)); (repeat' first | exact True.intro | (refine And.intro ?_ ?_) | rfl | exact fun _ h => h | exact .inl rfl | exact none_some | exact .inr ⟨rfl, rfl, fun _ _ => rfl⟩ | exact .inr ⟨rfl, rfl, lt1 rfl⟩ | exact .inr ⟨rfl, rfl, lt2 rfl rfl⟩ | exact .inr ⟨rfl, rfl, lt3 rfl rfl rfl⟩ | fail)))
      intro x; conv => whnf
      refine call_mm [((0,0,0), .old true (0,0,0))] 1 26 (two hs2 h5) ?_ ?_ ?_
      · conv => whnf
        (iterate 3 ((all_goals try (conv => whnf)); (repeat' first | exact True.intro | (refine And.intro ?_ ?_) | rfl | exact fun _ h => h | exact .inl rfl | exact none_some | exact .inr ⟨rfl, rfl, fun _ _ => rfl⟩ | exact .inr ⟨rfl, rfl, lt1 rfl⟩ | exact .inr ⟨rfl, rfl, lt2 rfl rfl⟩ | exact .inr ⟨rfl, rfl, lt3 rfl rfl rfl⟩ | fail)))
      · intro _; conv => whnf
        (iterate 3 ((all_goals try (conv => whnf)); (repeat' first | exact True.intro | (refine And.intro ?_ ?_) | rfl | exact fun _ h => h | exact .inl rfl | exact none_some | exact .inr ⟨rfl, rfl, fun _ _ => rfl⟩ | exact .inr ⟨rfl, rfl, lt1 rfl⟩ | exact .inr ⟨rfl, rfl, lt2 rfl rfl⟩ | exact .inr ⟨rfl, rfl, lt3 rfl rfl rfl⟩ | fail)))
      intro x; conv => whnf
      refine ⟨(), _, rfl, Sub.of_check [((0,0,0), .old true (0,0,0))] ?_ (by repeat' first | exact Gen0.emp | exact Gen0.ofH rfl | refine Gen0.put ?_ (by decide) | refine Gen0.put0 ?_ ⟨_, rfl⟩)⟩
      conv => whnf
      (iterate 3 ((all_goals try (conv => whnf)); (repeat' first | exact True.intro | (refine And.intro ?_ ?_) | rfl | exact fun _ h => h | exact .inl rfl | exact none_some | exact .inr ⟨rfl, rfl, fun _ _ => rfl⟩ | exact .inr ⟨rfl, rfl, lt1 rfl⟩ | exact .inr ⟨rfl, rfl, lt2 rfl rfl⟩ | exact .inr ⟨rfl, rfl, lt3 rfl rfl rfl⟩ | fail)))
    · refine call_mm [((0,0,0), .old true (0,0,0))] 1 20 (take_no a 5 (by omega) h1 (by omega) (by omega)) ?_ ?_ ?_
      · conv => whnf
        (iterate 3 ((all_goals try (conv => whnf)); (repeat' first | exact True.intro | (refine And.intro ?_ ?_) | rfl | exact fun _ h => h | exact .inl rfl | exact none_some | exact .inr ⟨rfl, rfl, fun _ _ => rfl⟩ | exact .inr ⟨rfl, rfl, lt1 rfl⟩ | exact .inr ⟨rfl, rfl, lt2 rfl rfl⟩ | exact .inr ⟨rfl, rfl, lt3 rfl rfl rfl⟩ | fail)))
      · intro _; conv => whnf
        (iterate 3 ((all_goals try (conv => whnf)); (repeat' first | exact True.intro | (refine And.intro ?_ ?_) | rfl | exact fun _ h => h | exact .inl rfl | exact none_some | exact .inr ⟨rfl, rfl, fun _ _ => rfl⟩ | exact .inr ⟨rfl, rfl, lt1 rfl⟩ | exact .inr ⟨rfl, rfl, lt2 rfl rfl⟩ | exact .inr ⟨rfl, rfl, lt3 rfl rfl rfl⟩ | fail)))
      intro x; conv => whnf
      obtain ⟨rfl, rfl⟩ := bad (by omega)
      refine ⟨(), _, rfl, Sub.of_check [((0,0,0), .old true (0,0,0))] ?_ (by repeat' first | exact Gen0.emp | exact Gen0.ofH rfl | refine Gen0.put ?_ (by decide) | refine Gen0.put0 ?_ ⟨_, rfl⟩)⟩
      conv => whnf
      (iterate 3 ((all_goals try (conv => whnf)); (repeat' first | exact True.intro | (refine And.intro ?_ ?_) | rfl | exact fun _ h => h | exact .inl rfl | exact none_some | exact .inr ⟨rfl, rfl, fun _ _ => rfl⟩ | exact .inr ⟨rfl, rfl, lt1 rfl⟩ | exact .inr ⟨rfl, rfl, lt2 rfl rfl⟩ | exact .inr ⟨rfl, rfl, lt3 rfl rfl rfl⟩ | fail)))
  try rw [hb4]
  conv => whnf
  repeat' first | (refine RegP.enter ?_; conv => whnf) | (refine DrawP.range (by kernel_rfl) ?_; conv => whnf) | (refine BuildP.frz ⟨rfl, ?_⟩; conv => whnf) | (refine BoxP.row ?_; conv => whnf) | (refine And.intro Nat.zero_lt_one ?_; conv => whnf) | (refine And.intro (Nat.succ_pos _) ?_; conv => whnf) | fail
  refine br (fun hb5 => ?_) (fun hb5 => ?_)
  · try rw [hb5]
    conv => whnf
    repeat' first | (refine RegP.enter ?_; conv => whnf) | (refine DrawP.range (by kernel_rfl) ?_; conv => whnf) | (refine BuildP.frz ⟨rfl, ?_⟩; conv => whnf) | (refine BoxP.row ?_; conv => whnf) | (refine And.intro Nat.zero_lt_one ?_; conv => whnf) | (refine And.intro (Nat.succ_pos _) ?_; conv => whnf) | fail
    refine call_mm [((0,0,0), .old true (0,0,0))] 1 31 (leaf 12 (by simp [GV.kind] at hb hb2 hb3 hb4 hb5; rw [← hs]; simp [GV.sz, hb5])) ?_ ?_ ?_
    · conv => whnf
      (iterate 3 ((all_goals try (conv => whnf)); (repeat' first | exact True.intro | (refine And.intro ?_ ?_) | rfl | exact fun _ h => h | exact .inl rfl | exact none_some | exact .inr ⟨rfl, rfl, fun _ _ => rfl⟩ | exact .inr ⟨rfl, rfl, lt1 rfl⟩ | exact .inr ⟨rfl, rfl, lt2 rfl rfl⟩ | exact .inr ⟨rfl, rfl, lt3 rfl rfl rfl⟩ | fail)))
    · intro _; conv => whnf
      (iterate 3 ((all_goals try (conv => whnf)); (repeat' first | exact True.intro | (refine And.intro ?_ ?_) | rfl | exact fun _ h => h | exact .inl rfl | exact none_some | exact .inr ⟨rfl, rfl, fun _ _ => rfl⟩ | exact .inr ⟨rfl, rfl, lt1 rfl⟩ | exact .inr ⟨rfl, rfl, lt2 rfl rfl⟩ | exact .inr ⟨rfl, rfl, lt3 rfl rfl rfl⟩ | fail)))
    intro x; conv => whnf
    refine ⟨(), _, rfl, Sub.of_check [((0,0,0), .old true (0,0,0))] ?_ (by repeat' first | exact Gen0.emp | exact Gen0.ofH rfl | refine Gen0.put ?_ (by decide) | refine Gen0.put0 ?_ ⟨_, rfl⟩)⟩
    conv => whnf
    (iterate 3 ((all_goals try (conv => whnf)); (repeat' first | exact True.intro | (refine And.intro ?_ ?_) | rfl | exact fun _ h => h | exact .inl rfl | exact none_some | exact .inr ⟨rfl, rfl, fun _ _ => rfl⟩ | exact .inr ⟨rfl, rfl, lt1 rfl⟩ | exact .inr ⟨rfl, rfl, lt2 rfl rfl⟩ | exact .inr ⟨rfl, rfl, lt3 rfl rfl rfl⟩ | fail)))
  try rw [hb5]
  conv => whnf
  repeat' first | (refine RegP.enter ?_; conv => whnf) | (refine DrawP.range (by kernel_rfl) ?_; conv => whnf) | (refine BuildP.frz ⟨rfl, ?_⟩; conv => whnf) | (refine BoxP.row ?_; conv => whnf) | (refine And.intro Nat.zero_lt_one ?_; conv => whnf) | (refine And.intro (Nat.succ_pos _) ?_; conv => whnf) | fail
  refine br (fun hb6 => ?_) (fun hb6 => ?_)
  · try rw [hb6]
    conv => whnf
    repeat' first | (refine RegP.enter ?_; conv => whnf) | (refine DrawP.range (by kernel_rfl) ?_; conv => whnf) | (refine BuildP.frz ⟨rfl, ?_⟩; conv => whnf) | (refine BoxP.row ?_; conv => whnf) | (refine And.intro Nat.zero_lt_one ?_; conv => whnf) | (refine And.intro (Nat.succ_pos _) ?_; conv => whnf) | fail
    refine call_mm [((0,0,0), .old true (0,0,0))] 1 35 (leaf 1 (by simp [GV.kind] at hb hb2 hb3 hb4 hb5 hb6; rw [← hs]; simp [GV.sz, hb6])) ?_ ?_ ?_
    · conv => whnf
      (iterate 3 ((all_goals try (conv => whnf)); (repeat' first | exact True.intro | (refine And.intro ?_ ?_) | rfl | exact fun _ h => h | exact .inl rfl | exact none_some | exact .inr ⟨rfl, rfl, fun _ _ => rfl⟩ | exact .inr ⟨rfl, rfl, lt1 rfl⟩ | exact .inr ⟨rfl, rfl, lt2 rfl rfl⟩ | exact .inr ⟨rfl, rfl, lt3 rfl rfl rfl⟩ | fail)))
    · intro _; conv => whnf
      (iterate 3 ((all_goals try (conv => whnf)); (repeat' first | exact True.intro | (refine And.intro ?_ ?_) | rfl | exact fun _ h => h | exact .inl rfl | exact none_some | exact .inr ⟨rfl, rfl, fun _ _ => rfl⟩ | exact .inr ⟨rfl, rfl, lt1 rfl⟩ | exact .inr ⟨rfl, rfl, lt2 rfl rfl⟩ | exact .inr ⟨rfl, rfl, lt3 rfl rfl rfl⟩ | fail)))
    intro x; conv => whnf
    refine ⟨(), _, rfl, Sub.of_check [((0,0,0), .old true (0,0,0))] ?_ (by repeat' first | exact Gen0.emp | exact Gen0.ofH rfl | refine Gen0.put ?_ (by decide) | refine Gen0.put0 ?_ ⟨_, rfl⟩)⟩
    conv => whnf
    (iterate 3 ((all_goals try (conv => whnf)); (repeat' first | exact True.intro | (refine And.intro ?_ ?_) | rfl | exact fun _ h => h | exact .inl rfl | exact none_some | exact .inr ⟨rfl, rfl, fun _ _ => rfl⟩ | exact .inr ⟨rfl, rfl, lt1 rfl⟩ | exact .inr ⟨rfl, rfl, lt2 rfl rfl⟩ | exact .inr ⟨rfl, rfl, lt3 rfl rfl rfl⟩ | fail)))
  try rw [hb6]
  conv => whnf
  repeat' first | (refine RegP.enter ?_; conv => whnf) | (refine DrawP.range (by kernel_rfl) ?_; conv => whnf) | (refine BuildP.frz ⟨rfl, ?_⟩; conv => whnf) | (refine BoxP.row ?_; conv => whnf) | (refine And.intro Nat.zero_lt_one ?_; conv => whnf) | (refine And.intro (Nat.succ_pos _) ?_; conv => whnf) | fail
  refine br (fun hb7 => ?_) (fun hb7 => ?_)
  · have hs2 : sz = 5 + szD doc := by simp [GV.kind] at hb hb2 hb3 hb4 hb5 hb6 hb7; rw [← hs]; simp [GV.sz, hb7]
    try rw [hb7]
    conv => whnf
    repeat' first | (refine RegP.enter ?_; conv => whnf) | (refine DrawP.range (by kernel_rfl) ?_; conv => whnf) | (refine BuildP.frz ⟨rfl, ?_⟩; conv => whnf) | (refine BoxP.row ?_; conv => whnf) | (refine And.intro Nat.zero_lt_one ?_; conv => whnf) | (refine And.intro (Nat.succ_pos _) ?_; conv => whnf) | fail
    by_cases h5 : 5 ≤ a
    rotate_left
    · refine call_mm [((0,0,0), .old true (0,0,0))] 1 39 (take_no a 5 (by omega) h1 (by omega) (by omega)) ?_ ?_ ?_
      · conv => whnf
        (iterate 3 ((all_goals try (conv => whnf)); (repeat' first | exact True.intro | (refine And.intro ?_ ?_) | rfl | exact fun _ h => h | exact .inl rfl | exact none_some | exact .inr ⟨rfl, rfl, fun _ _ => rfl⟩ | exact .inr ⟨rfl, rfl, lt1 rfl⟩ | exact .inr ⟨rfl, rfl, lt2 rfl rfl⟩ | exact .inr ⟨rfl, rfl, lt3 rfl rfl rfl⟩ | fail)))
      · intro _; conv => whnf
        (iterate 3 ((all_goals try (conv => whnf)); (repeat' first | exact True.intro | (refine And.intro ?_ ?_) | rfl | exact fun _ h => h | exact .inl rfl | exact none_some | exact .inr ⟨rfl, rfl, fun _ _ => rfl⟩ | exact .inr ⟨rfl, rfl, lt1 rfl⟩ | exact .inr ⟨rfl, rfl, lt2 rfl rfl⟩ | exact .inr ⟨rfl, rfl, lt3 rfl rfl rfl⟩ | fail)))
      intro x; conv => whnf
      obtain ⟨rfl, rfl⟩ := bad (by omega)
      repeat' first | (refine RegP.enter ?_; conv => whnf) | (refine DrawP.range (by kernel_rfl) ?_; conv => whnf) | (refine BuildP.frz ⟨rfl, ?_⟩; conv => whnf) | (refine BoxP.row ?_; conv => whnf) | (refine And.intro Nat.zero_lt_one ?_; conv => whnf) | (refine And.intro (Nat.succ_pos _) ?_; conv => whnf) | fail
      refine ⟨(), _, rfl, Sub.of_check [((0,0,0), .old true (0,0,0))] ?_ (by repeat' first | exact Gen0.emp | exact Gen0.ofH rfl | refine Gen0.put ?_ (by decide) | refine Gen0.put0 ?_ ⟨_, rfl⟩)⟩
      conv => whnf
      (iterate 3 ((all_goals try (conv => whnf)); (repeat' first | exact True.intro | (refine And.intro ?_ ?_) | rfl | exact fun _ h => h | exact .inl rfl | exact none_some | exact .inr ⟨rfl, rfl, fun _ _ => rfl⟩ | exact .inr ⟨rfl, rfl, lt1 rfl⟩ | exact .inr ⟨rfl, rfl, lt2 rfl rfl⟩ | exact .inr ⟨rfl, rfl, lt3 rfl rfl rfl⟩ | fail)))
    refine call_mm [((0,0,0), .old true (0,0,0))] 1 39 (take_yes a 5 h1 (by omega) h5) ?_ ?_ ?_
    · conv => whnf
      (iterate 3 ((all_goals try (conv => whnf)); (repeat' first | exact True.intro | (refine And.intro ?_ ?_) | rfl | exact fun _ h => h | exact .inl rfl | exact none_some | exact .inr ⟨rfl, rfl, fun _ _ => rfl⟩ | exact .inr ⟨rfl, rfl, lt1 rfl⟩ | exact .inr ⟨rfl, rfl, lt2 rfl rfl⟩ | exact .inr ⟨rfl, rfl, lt3 rfl rfl rfl⟩ | fail)))
    · intro _; conv => whnf
      (iterate 3 ((all_goals try (conv => whnf)); (repeat' first | exact True.intro | (refine And.intro ?_ ?_) | rfl | exact fun _ h => h | exact .inl rfl | exact none_some | exact .inr ⟨rfl, rfl, fun _ _ => rfl⟩ | exact .inr ⟨rfl, rfl, lt1 rfl⟩ | exact .inr ⟨rfl, rfl, lt2 rfl rfl⟩ | exact .inr ⟨rfl, rfl, lt3 rfl rfl rfl⟩ | fail)))
    intro x; conv => whnf
    repeat' first | (refine RegP.enter ?_; conv => whnf) | (refine DrawP.range (by kernel_rfl) ?_; conv => whnf) | (refine BuildP.frz ⟨rfl, ?_⟩; conv => whnf) | (refine BoxP.row ?_; conv => whnf) | (refine And.intro Nat.zero_lt_one ?_; conv => whnf) | (refine And.intro (Nat.succ_pos _) ?_; conv => whnf) | fail
    refine ⟨2, {i : Nat // i ≤ doc.length ∧ (5 + szD (doc.take i) : Int) ≤ a}, fun i => ([(0, .ptr (0,0,0) 0 0), (42, .lz (.gd doc)), (43, .int doc.length), (44, .int i.1)], [((0,0,0), .cells 1 8 [[.int (a - (5 + szD (doc.take i.1)))]])]), fun i => doc.length - i.1, ⟨⟨0, Nat.zero_le _, by simp [szD]; omega⟩, Sub.of_check [((0,0,0), .old true (0,0,0))] ?_ (by repeat' first | exact Gen0.emp | exact Gen0.ofH rfl | refine Gen0.put ?_ (by decide) | refine Gen0.put0 ?_ ⟨_, rfl⟩)⟩, fun ⟨i, hi, hia⟩ => ?_⟩
    · conv => whnf
      (iterate 3 ((all_goals try (conv => whnf)); (repeat' first | exact True.intro | (refine And.intro ?_ ?_) | rfl | exact fun _ h => h | exact .inl rfl | exact none_some | exact .inr ⟨rfl, rfl, fun _ _ => rfl⟩ | exact .inr ⟨rfl, rfl, lt1 rfl⟩ | exact .inr ⟨rfl, rfl, lt2 rfl rfl⟩ | exact .inr ⟨rfl, rfl, lt3 rfl rfl rfl⟩ | fail)))
    conv => whnf
    refine RegP.go fun hf => ?_
    conv => whnf
    refine br (fun hl => ?_) (fun hl => ?_)
    rotate_left
    · have hge : i = doc.length := by
        have : ¬ i < doc.length := by simpa using hl
        omega
      try rw [hl]
      conv => whnf
      repeat' first | (refine RegP.enter ?_; conv => whnf) | (refine DrawP.range (by kernel_rfl) ?_; conv => whnf) | (refine BuildP.frz ⟨rfl, ?_⟩; conv => whnf) | (refine BoxP.row ?_; conv => whnf) | (refine And.intro Nat.zero_lt_one ?_; conv => whnf) | (refine And.intro (Nat.succ_pos _) ?_; conv => whnf) | fail
      rw [hge, List.take_length] at hia
      obtain ⟨rfl, rfl⟩ := good (by omega)
      refine ⟨(), _, rfl, Sub.of_check [((0,0,0), .old true (0,0,0))] ?_ (by repeat' first | exact Gen0.emp | exact Gen0.ofH rfl | refine Gen0.put ?_ (by decide) | refine Gen0.put0 ?_ ⟨_, rfl⟩)⟩
      conv => whnf
      (iterate 3 ((all_goals try (conv => whnf)); (repeat' first | exact True.intro | (refine And.intro ?_ ?_) | rfl | exact fun _ h => h | exact .inl rfl | exact none_some | exact .inr ⟨rfl, rfl, fun _ _ => rfl⟩ | exact .inr ⟨rfl, rfl, lt1 rfl⟩ | exact .inr ⟨rfl, rfl, lt2 rfl rfl⟩ | exact .inr ⟨rfl, rfl, lt3 rfl rfl rfl⟩ | fail)))
      show a - (5 + (szD (doc.take i) : Int)) = a - sz
      rw [hge, List.take_length]; omega
    have hlt : i < doc.length := by simpa using hl
    have hsz := szD_succ hlt
    have hle := szD_le doc (i + 1)
    have hR := le_of_mul (k := 95) (hf.lz 42 _ _ _ _ _ _ rfl rfl)
    try rw [hl]
    conv => whnf
    refine RegP.enter ?_
    conv => whnf
    refine And.intro (hlt) ?_
    conv => whnf
    refine And.intro (hlt) ?_
    conv => whnf
    repeat' first | (refine RegP.enter ?_; conv => whnf) | (refine DrawP.range (by kernel_rfl) ?_; conv => whnf) | (refine BuildP.frz ⟨rfl, ?_⟩; conv => whnf) | (refine BoxP.row ?_; conv => whnf) | (refine And.intro Nat.zero_lt_one ?_; conv => whnf) | (refine And.intro (Nat.succ_pos _) ?_; conv => whnf) | fail
    by_cases c1 : 2 ≤ a - (5 + (szD (doc.take i) : Int))
    rotate_left
    · refine call_mm [((0,0,0), .old true (0,0,0))] 2 49 (take_no (a - (5 + (szD (doc.take i) : Int))) 2 (by omega) (by omega) (by omega) (by omega)) ?_ ?_ ?_
      · conv => whnf
        (iterate 3 ((all_goals try (conv => whnf)); (repeat' first | exact True.intro | (refine And.intro ?_ ?_) | rfl | exact fun _ h => h | exact .inl rfl | exact none_some | exact .inr ⟨rfl, rfl, fun _ _ => rfl⟩ | exact .inr ⟨rfl, rfl, lt1 rfl⟩ | exact .inr ⟨rfl, rfl, lt2 rfl rfl⟩ | exact .inr ⟨rfl, rfl, lt3 rfl rfl rfl⟩ | fail)))
      · intro _; conv => whnf
        (iterate 3 ((all_goals try (conv => whnf)); (repeat' first | exact True.intro | (refine And.intro ?_ ?_) | rfl | exact fun _ h => h | exact .inl rfl | exact none_some | exact .inr ⟨rfl, rfl, fun _ _ => rfl⟩ | exact .inr ⟨rfl, rfl, lt1 rfl⟩ | exact .inr ⟨rfl, rfl, lt2 rfl rfl⟩ | exact .inr ⟨rfl, rfl, lt3 rfl rfl rfl⟩ | fail)))
      intro x; conv => whnf
      obtain ⟨rfl, rfl⟩ := bad (by omega)
      repeat' first | (refine RegP.enter ?_; conv => whnf) | (refine DrawP.range (by kernel_rfl) ?_; conv => whnf) | (refine BuildP.frz ⟨rfl, ?_⟩; conv => whnf) | (refine BoxP.row ?_; conv => whnf) | (refine And.intro Nat.zero_lt_one ?_; conv => whnf) | (refine And.intro (Nat.succ_pos _) ?_; conv => whnf) | fail
      refine ⟨(), _, rfl, Sub.of_check [((0,0,0), .old true (0,0,0))] ?_ (by repeat' first | exact Gen0.emp | exact Gen0.ofH rfl | refine Gen0.put ?_ (by decide) | refine Gen0.put0 ?_ ⟨_, rfl⟩)⟩
      conv => whnf
      (iterate 3 ((all_goals try (conv => whnf)); (repeat' first | exact True.intro | (refine And.intro ?_ ?_) | rfl | exact fun _ h => h | exact .inl rfl | exact none_some | exact .inr ⟨rfl, rfl, fun _ _ => rfl⟩ | exact .inr ⟨rfl, rfl, lt1 rfl⟩ | exact .inr ⟨rfl, rfl, lt2 rfl rfl⟩ | exact .inr ⟨rfl, rfl, lt3 rfl rfl rfl⟩ | fail)))
    refine call_mm [((0,0,0), .old true (0,0,0))] 2 49 (take_yes (a - (5 + (szD (doc.take i) : Int))) 2 (by omega) (by omega) c1) ?_ ?_ ?_
    · conv => whnf
      (iterate 3 ((all_goals try (conv => whnf)); (repeat' first | exact True.intro | (refine And.intro ?_ ?_) | rfl | exact fun _ h => h | exact .inl rfl | exact none_some | exact .inr ⟨rfl, rfl, fun _ _ => rfl⟩ | exact .inr ⟨rfl, rfl, lt1 rfl⟩ | exact .inr ⟨rfl, rfl, lt2 rfl rfl⟩ | exact .inr ⟨rfl, rfl, lt3 rfl rfl rfl⟩ | fail)))
    · intro _; conv => whnf
      (iterate 3 ((all_goals try (conv => whnf)); (repeat' first | exact True.intro | (refine And.intro ?_ ?_) | rfl | exact fun _ h => h | exact .inl rfl | exact none_some | exact .inr ⟨rfl, rfl, fun _ _ => rfl⟩ | exact .inr ⟨rfl, rfl, lt1 rfl⟩ | exact .inr ⟨rfl, rfl, lt2 rfl rfl⟩ | exact .inr ⟨rfl, rfl, lt3 rfl rfl rfl⟩ | fail)))
    intro x; conv => whnf
    by_cases c2 : ((doc.getD i default).1.size : Int) ≤ a - (5 + (szD (doc.take i) : Int)) - 2
    rotate_left
    · refine call_mm [((0,0,0), .old true (0,0,0))] 2 56 (take_no (a - (5 + (szD (doc.take i) : Int)) - 2) ((doc.getD i default).1.size : Int) (by omega) (by omega) (by omega) (by omega)) ?_ ?_ ?_
      · conv => whnf
        (iterate 3 ((all_goals try (conv => whnf)); (repeat' first | exact True.intro | (refine And.intro ?_ ?_) | rfl | exact fun _ h => h | exact .inl rfl | exact none_some | exact .inr ⟨rfl, rfl, fun _ _ => rfl⟩ | exact .inr ⟨rfl, rfl, lt1 rfl⟩ | exact .inr ⟨rfl, rfl, lt2 rfl rfl⟩ | exact .inr ⟨rfl, rfl, lt3 rfl rfl rfl⟩ | fail)))
      · intro _; conv => whnf
        (iterate 3 ((all_goals try (conv => whnf)); (repeat' first | exact True.intro | (refine And.intro ?_ ?_) | rfl | exact fun _ h => h | exact .inl rfl | exact none_some | exact .inr ⟨rfl, rfl, fun _ _ => rfl⟩ | exact .inr ⟨rfl, rfl, lt1 rfl⟩ | exact .inr ⟨rfl, rfl, lt2 rfl rfl⟩ | exact .inr ⟨rfl, rfl, lt3 rfl rfl rfl⟩ | fail)))
      intro x; conv => whnf
      obtain ⟨rfl, rfl⟩ := bad (by omega)
      repeat' first | (refine RegP.enter ?_; conv => whnf) | (refine DrawP.range (by kernel_rfl) ?_; conv => whnf) | (refine BuildP.frz ⟨rfl, ?_⟩; conv => whnf) | (refine BoxP.row ?_; conv => whnf) | (refine And.intro Nat.zero_lt_one ?_; conv => whnf) | (refine And.intro (Nat.succ_pos _) ?_; conv => whnf) | fail
      refine ⟨(), _, rfl, Sub.of_check [((0,0,0), .old true (0,0,0))] ?_ (by repeat' first | exact Gen0.emp | exact Gen0.ofH rfl | refine Gen0.put ?_ (by decide) | refine Gen0.put0 ?_ ⟨_, rfl⟩)⟩
      conv => whnf
      (iterate 3 ((all_goals try (conv => whnf)); (repeat' first | exact True.intro | (refine And.intro ?_ ?_) | rfl | exact fun _ h => h | exact .inl rfl | exact none_some | exact .inr ⟨rfl, rfl, fun _ _ => rfl⟩ | exact .inr ⟨rfl, rfl, lt1 rfl⟩ | exact .inr ⟨rfl, rfl, lt2 rfl rfl⟩ | exact .inr ⟨rfl, rfl, lt3 rfl rfl rfl⟩ | fail)))
    refine call_mm [((0,0,0), .old true (0,0,0))] 2 56 (take_yes (a - (5 + (szD (doc.take i) : Int)) - 2) ((doc.getD i default).1.size : Int) (by omega) (by omega) c2) ?_ ?_ ?_
    · conv => whnf
      (iterate 3 ((all_goals try (conv => whnf)); (repeat' first | exact True.intro | (refine And.intro ?_ ?_) | rfl | exact fun _ h => h | exact .inl rfl | exact none_some | exact .inr ⟨rfl, rfl, fun _ _ => rfl⟩ | exact .inr ⟨rfl, rfl, lt1 rfl⟩ | exact .inr ⟨rfl, rfl, lt2 rfl rfl⟩ | exact .inr ⟨rfl, rfl, lt3 rfl rfl rfl⟩ | fail)))
    · intro _; conv => whnf
      (iterate 3 ((all_goals try (conv => whnf)); (repeat' first | exact True.intro | (refine And.intro ?_ ?_) | rfl | exact fun _ h => h | exact .inl rfl | exact none_some | exact .inr ⟨rfl, rfl, fun _ _ => rfl⟩ | exact .inr ⟨rfl, rfl, lt1 rfl⟩ | exact .inr ⟨rfl, rfl, lt2 rfl rfl⟩ | exact .inr ⟨rfl, rfl, lt3 rfl rfl rfl⟩ | fail)))
    intro x; conv => whnf
    have hmem : doc.getD i default ∈ doc := by simp [hlt]
    have hsm := GV.sizeOf_doc (k := kind) (n := int) (t := text) (l := list) hmem
    by_cases c3 : (((doc.getD i default).2.sz : Nat) : Int) ≤ a - (5 + (szD (doc.take i) : Int)) - 2 - ((doc.getD i default).1.size : Int)
    rotate_left
    · refine call_mm [((0,0,0), .old true (0,0,0))] 2 63 (ih (doc.getD i default).2 (by omega) (a - (5 + (szD (doc.take i) : Int)) - 2 - ((doc.getD i default).1.size : Int)) (by omega) (by omega) (.no (by omega))) ?_ ?_ ?_
      · conv => whnf
        (iterate 3 ((all_goals try (conv => whnf)); (repeat' first | exact True.intro | (refine And.intro ?_ ?_) | rfl | exact fun _ h => h | exact .inl rfl | exact none_some | exact .inr ⟨rfl, rfl, fun _ _ => rfl⟩ | exact .inr ⟨rfl, rfl, lt1 rfl⟩ | exact .inr ⟨rfl, rfl, lt2 rfl rfl⟩ | exact .inr ⟨rfl, rfl, lt3 rfl rfl rfl⟩ | fail)))
      · intro _; conv => whnf
        (iterate 3 ((all_goals try (conv => whnf)); (repeat' first | exact True.intro | (refine And.intro ?_ ?_) | rfl | exact fun _ h => h | exact .inl rfl | exact none_some | exact .inr ⟨rfl, rfl, fun _ _ => rfl⟩ | exact .inr ⟨rfl, rfl, lt1 rfl⟩ | exact .inr ⟨rfl, rfl, lt2 rfl rfl⟩ | exact .inr ⟨rfl, rfl, lt3 rfl rfl rfl⟩ | fail)))
      intro x; conv => whnf
      obtain ⟨rfl, rfl⟩ := bad (by omega)
      repeat' first | (refine RegP.enter ?_; conv => whnf) | (refine DrawP.range (by kernel_rfl) ?_; conv => whnf) | (refine BuildP.frz ⟨rfl, ?_⟩; conv => whnf) | (refine BoxP.row ?_; conv => whnf) | (refine And.intro Nat.zero_lt_one ?_; conv => whnf) | (refine And.intro (Nat.succ_pos _) ?_; conv => whnf) | fail
      refine ⟨(), _, rfl, Sub.of_check [((0,0,0), .old true (0,0,0))] ?_ (by repeat' first | exact Gen0.emp | exact Gen0.ofH rfl | refine Gen0.put ?_ (by decide) | refine Gen0.put0 ?_ ⟨_, rfl⟩)⟩
      conv => whnf
      (iterate 3 ((all_goals try (conv => whnf)); (repeat' first | exact True.intro | (refine And.intro ?_ ?_) | rfl | exact fun _ h => h | exact .inl rfl | exact none_some | exact .inr ⟨rfl, rfl, fun _ _ => rfl⟩ | exact .inr ⟨rfl, rfl, lt1 rfl⟩ | exact .inr ⟨rfl, rfl, lt2 rfl rfl⟩ | exact .inr ⟨rfl, rfl, lt3 rfl rfl rfl⟩ | fail)))
    refine call_mm [((0,0,0), .old true (0,0,0))] 2 63 (ih (doc.getD i default).2 (by omega) (a - (5 + (szD (doc.take i) : Int)) - 2 - ((doc.getD i default).1.size : Int)) (by omega) (by omega) (.yes c3)) ?_ ?_ ?_
    · conv => whnf
      (iterate 3 ((all_goals try (conv => whnf)); (repeat' first | exact True.intro | (refine And.intro ?_ ?_) | rfl | exact fun _ h => h | exact .inl rfl | exact none_some | exact .inr ⟨rfl, rfl, fun _ _ => rfl⟩ | exact .inr ⟨rfl, rfl, lt1 rfl⟩ | exact .inr ⟨rfl, rfl, lt2 rfl rfl⟩ | exact .inr ⟨rfl, rfl, lt3 rfl rfl rfl⟩ | fail)))
    · intro _; conv => whnf
      (iterate 3 ((all_goals try (conv => whnf)); (repeat' first | exact True.intro | (refine And.intro ?_ ?_) | rfl | exact fun _ h => h | exact .inl rfl | exact none_some | exact .inr ⟨rfl, rfl, fun _ _ => rfl⟩ | exact .inr ⟨rfl, rfl, lt1 rfl⟩ | exact .inr ⟨rfl, rfl, lt2 rfl rfl⟩ | exact .inr ⟨rfl, rfl, lt3 rfl rfl rfl⟩ | fail)))
    intro x; conv => whnf
    repeat' first | (refine RegP.enter ?_; conv => whnf) | (refine DrawP.range (by kernel_rfl) ?_; conv => whnf) | (refine BuildP.frz ⟨rfl, ?_⟩; conv => whnf) | (refine BoxP.row ?_; conv => whnf) | (refine And.intro Nat.zero_lt_one ?_; conv => whnf) | (refine And.intro (Nat.succ_pos _) ?_; conv => whnf) | fail
    refine ⟨⟨i + 1, hlt, by omega⟩, (by show doc.length - (i + 1) < doc.length - i; omega), Sub.of_check [((0,0,0), .old true (0,0,0))] ?_ (by repeat' first | exact Gen0.emp | exact Gen0.ofH rfl | refine Gen0.put ?_ (by decide) | refine Gen0.put0 ?_ ⟨_, rfl⟩)⟩
    conv => whnf
    (iterate 3 ((all_goals try (conv => whnf)); (repeat' first | exact True.intro | (refine And.intro ?_ ?_) | rfl | exact fun _ h => h | exact .inl rfl | exact none_some | exact .inr ⟨rfl, rfl, fun _ _ => rfl⟩ | exact .inr ⟨rfl, rfl, lt1 rfl⟩ | exact .inr ⟨rfl, rfl, lt2 rfl rfl⟩ | exact .inr ⟨rfl, rfl, lt3 rfl rfl rfl⟩ | fail)))
    all_goals first | exact wrap_succ hlt hR | (show _ = a - (5 + (szD (doc.take (i + 1)) : Int)); omega)
  try rw [hb7]
  conv => whnf
  repeat' first | (refine RegP.enter ?_; conv => whnf) | (refine DrawP.range (by kernel_rfl) ?_; conv => whnf) | (refine BuildP.frz ⟨rfl, ?_⟩; conv => whnf) | (refine BoxP.row ?_; conv => whnf) | (refine And.intro Nat.zero_lt_one ?_; conv => whnf) | (refine And.intro (Nat.succ_pos _) ?_; conv => whnf) | fail
  refine br (fun hb8 => ?_) (fun hb8 => ?_)
  · have hs2 : sz = 5 + szL 0 list := by simp [GV.kind] at hb hb2 hb3 hb4 hb5 hb6 hb7 hb8; rw [← hs]; simp [GV.sz, hb8]
    try rw [hb8]
    conv => whnf
    repeat' first | (refine RegP.enter ?_; conv => whnf) | (refine DrawP.range (by kernel_rfl) ?_; conv => whnf) | (refine BuildP.frz ⟨rfl, ?_⟩; conv => whnf) | (refine BoxP.row ?_; conv => whnf) | (refine And.intro Nat.zero_lt_one ?_; conv => whnf) | (refine And.intro (Nat.succ_pos _) ?_; conv => whnf) | fail
    by_cases h5 : 5 ≤ a
    rotate_left
    · refine call_mm [((0,0,0), .old true (0,0,0))] 1 70 (take_no a 5 (by omega) h1 (by omega) (by omega)) ?_ ?_ ?_
      · conv => whnf
        (iterate 3 ((all_goals try (conv => whnf)); (repeat' first | exact True.intro | (refine And.intro ?_ ?_) | rfl | exact fun _ h => h | exact .inl rfl | exact none_some | exact .inr ⟨rfl, rfl, fun _ _ => rfl⟩ | exact .inr ⟨rfl, rfl, lt1 rfl⟩ | exact .inr ⟨rfl, rfl, lt2 rfl rfl⟩ | exact .inr ⟨rfl, rfl, lt3 rfl rfl rfl⟩ | fail)))
      · intro _; conv => whnf
        (iterate 3 ((all_goals try (conv => whnf)); (repeat' first | exact True.intro | (refine And.intro ?_ ?_) | rfl | exact fun _ h => h | exact .inl rfl | exact none_some | exact .inr ⟨rfl, rfl, fun _ _ => rfl⟩ | exact .inr ⟨rfl, rfl, lt1 rfl⟩ | exact .inr ⟨rfl, rfl, lt2 rfl rfl⟩ | exact .inr ⟨rfl, rfl, lt3 rfl rfl rfl⟩ | fail)))
      intro x; conv => whnf
      obtain ⟨rfl, rfl⟩ := bad (by omega)
      repeat' first | (refine RegP.enter ?_; conv => whnf) | (refine DrawP.range (by kernel_rfl) ?_; conv => whnf) | (refine BuildP.frz ⟨rfl, ?_⟩; conv => whnf) | (refine BoxP.row ?_; conv => whnf) | (refine And.intro Nat.zero_lt_one ?_; conv => whnf) | (refine And.intro (Nat.succ_pos _) ?_; conv => whnf) | fail
      refine ⟨(), _, rfl, Sub.of_check [((0,0,0), .old true (0,0,0))] ?_ (by repeat' first | exact Gen0.emp | exact Gen0.ofH rfl | refine Gen0.put ?_ (by decide) | refine Gen0.put0 ?_ ⟨_, rfl⟩)⟩
      conv => whnf
      (iterate 3 ((all_goals try (conv => whnf)); (repeat' first | exact True.intro | (refine And.intro ?_ ?_) | rfl | exact fun _ h => h | exact .inl rfl | exact none_some | exact .inr ⟨rfl, rfl, fun _ _ => rfl⟩ | exact .inr ⟨rfl, rfl, lt1 rfl⟩ | exact .inr ⟨rfl, rfl, lt2 rfl rfl⟩ | exact .inr ⟨rfl, rfl, lt3 rfl rfl rfl⟩ | fail)))
    refine call_mm [((0,0,0), .old true (0,0,0))] 1 70 (take_yes a 5 h1 (by omega) h5) ?_ ?_ ?_
    · conv => whnf
      (iterate 3 ((all_goals try (conv => whnf)); (repeat' first | exact True.intro | (refine And.intro ?_ ?_) | rfl | exact fun _ h => h | exact .inl rfl | exact none_some | exact .inr ⟨rfl, rfl, fun _ _ => rfl⟩ | exact .inr ⟨rfl, rfl, lt1 rfl⟩ | exact .inr ⟨rfl, rfl, lt2 rfl rfl⟩ | exact .inr ⟨rfl, rfl, lt3 rfl rfl rfl⟩ | fail)))
    · intro _; conv => whnf
      (iterate 3 ((all_goals try (conv => whnf)); (repeat' first | exact True.intro | (refine And.intro ?_ ?_) | rfl | exact fun _ h => h | exact .inl rfl | exact none_some | exact .inr ⟨rfl, rfl, fun _ _ => rfl⟩ | exact .inr ⟨rfl, rfl, lt1 rfl⟩ | exact .inr ⟨rfl, rfl, lt2 rfl rfl⟩ | exact .inr ⟨rfl, rfl, lt3 rfl rfl rfl⟩ | fail)))
    intro x; conv => whnf
    repeat' first | (refine RegP.enter ?_; conv => whnf) | (refine DrawP.range (by kernel_rfl) ?_; conv => whnf) | (refine BuildP.frz ⟨rfl, ?_⟩; conv => whnf) | (refine BoxP.row ?_; conv => whnf) | (refine And.intro Nat.zero_lt_one ?_; conv => whnf) | (refine And.intro (Nat.succ_pos _) ?_; conv => whnf) | fail
    refine ⟨2, {i : Nat // i ≤ list.length ∧ (5 + szL 0 (list.take i) : Int) ≤ a}, fun i => ([(0, .ptr (0,0,0) 0 0), (73, .lz (.gl list)), (74, .int list.length), (75, .int i.1)], [((0,0,0), .cells 1 8 [[.int (a - (5 + szL 0 (list.take i.1)))]])]), fun i => list.length - i.1, ⟨⟨0, Nat.zero_le _, by simp [szL]; omega⟩, Sub.of_check [((0,0,0), .old true (0,0,0))] ?_ (by repeat' first | exact Gen0.emp | exact Gen0.ofH rfl | refine Gen0.put ?_ (by decide) | refine Gen0.put0 ?_ ⟨_, rfl⟩)⟩, fun ⟨i, hi, hia⟩ => ?_⟩
    · conv => whnf
      (iterate 3 ((all_goals try (conv => whnf)); (repeat' first | exact True.intro | (refine And.intro ?_ ?_) | rfl | exact fun _ h => h | exact .inl rfl | exact none_some | exact .inr ⟨rfl, rfl, fun _ _ => rfl⟩ | exact .inr ⟨rfl, rfl, lt1 rfl⟩ | exact .inr ⟨rfl, rfl, lt2 rfl rfl⟩ | exact .inr ⟨rfl, rfl, lt3 rfl rfl rfl⟩ | fail)))
    conv => whnf
    refine RegP.go fun hf => ?_
    conv => whnf
    refine br (fun hl => ?_) (fun hl => ?_)
    rotate_left
    · have hge : i = list.length := by
        have : ¬ i < list.length := by simpa using hl
        omega
      try rw [hl]
      conv => whnf
      repeat' first | (refine RegP.enter ?_; conv => whnf) | (refine DrawP.range (by kernel_rfl) ?_; conv => whnf) | (refine BuildP.frz ⟨rfl, ?_⟩; conv => whnf) | (refine BoxP.row ?_; conv => whnf) | (refine And.intro Nat.zero_lt_one ?_; conv => whnf) | (refine And.intro (Nat.succ_pos _) ?_; conv => whnf) | fail
      rw [hge, List.take_length] at hia
      obtain ⟨rfl, rfl⟩ := good (by omega)
      refine ⟨(), _, rfl, Sub.of_check [((0,0,0), .old true (0,0,0))] ?_ (by repeat' first | exact Gen0.emp | exact Gen0.ofH rfl | refine Gen0.put ?_ (by decide) | refine Gen0.put0 ?_ ⟨_, rfl⟩)⟩
      conv => whnf
      (iterate 3 ((all_goals try (conv => whnf)); (repeat' first | exact True.intro | (refine And.intro ?_ ?_) | rfl | exact fun _ h => h | exact .inl rfl | exact none_some | exact .inr ⟨rfl, rfl, fun _ _ => rfl⟩ | exact .inr ⟨rfl, rfl, lt1 rfl⟩ | exact .inr ⟨rfl, rfl, lt2 rfl rfl⟩ | exact .inr ⟨rfl, rfl, lt3 rfl rfl rfl⟩ | fail)))
      show a - (5 + (szL 0 (list.take i) : Int)) = a - sz
      rw [hge, List.take_length]; omega
    have hlt : i < list.length := by simpa using hl
    have hsz := szL_succ hlt
    have hle := szL_le list (i + 1)
    have hR := le_of_mul (k := 79) (hf.lz 73 _ _ _ _ _ _ rfl rfl)
    have hR2 : R = 140737488355328 := rfl
    have hil := Lib.itoa_length_le (i : Int) (by omega) (by omega)
    try rw [hl]
    conv => whnf
    refine RegP.enter ?_
    conv => whnf
    refine And.intro (hlt) ?_
    conv => whnf
    refine And.intro (hlt) ?_
    conv => whnf
    repeat' first | (refine RegP.enter ?_; conv => whnf) | (refine DrawP.range (by kernel_rfl) ?_; conv => whnf) | (refine BuildP.frz ⟨rfl, ?_⟩; conv => whnf) | (refine BoxP.row ?_; conv => whnf) | (refine And.intro Nat.zero_lt_one ?_; conv => whnf) | (refine And.intro (Nat.succ_pos _) ?_; conv => whnf) | fail
    refine call_same (itoa_ok (i : Int) (by omega) (by omega)) rfl ?_
    conv => whnf
    by_cases c1 : 2 + ((Lib.itoa (i : Int)).length : Int) ≤ a - (5 + (szL 0 (list.take i) : Int))
    rotate_left
    · refine call_mm [((0,0,0), .old true (0,0,0))] 2 85 (take_no (a - (5 + (szL 0 (list.take i) : Int))) (2 + ((Lib.itoa (i : Int)).length : Int)) (by omega) (by omega) (by omega) (by omega)) ?_ ?_ ?_
      · conv => whnf
        (iterate 3 ((all_goals try (conv => whnf)); (repeat' first | exact True.intro | (refine And.intro ?_ ?_) | rfl | exact fun _ h => h | exact .inl rfl | exact none_some | exact .inr ⟨rfl, rfl, fun _ _ => rfl⟩ | exact .inr ⟨rfl, rfl, lt1 rfl⟩ | exact .inr ⟨rfl, rfl, lt2 rfl rfl⟩ | exact .inr ⟨rfl, rfl, lt3 rfl rfl rfl⟩ | fail)))
        all_goals exact wrap64 (show -9223372036854775808 ≤ 2 + ((Lib.itoa (i : Int)).length : Int) by omega) (show 2 + ((Lib.itoa (i : Int)).length : Int) < 9223372036854775808 by omega)
      · intro _; conv => whnf
        (iterate 3 ((all_goals try (conv => whnf)); (repeat' first | exact True.intro | (refine And.intro ?_ ?_) | rfl | exact fun _ h => h | exact .inl rfl | exact none_some | exact .inr ⟨rfl, rfl, fun _ _ => rfl⟩ | exact .inr ⟨rfl, rfl, lt1 rfl⟩ | exact .inr ⟨rfl, rfl, lt2 rfl rfl⟩ | exact .inr ⟨rfl, rfl, lt3 rfl rfl rfl⟩ | fail)))
      intro x; conv => whnf
      obtain ⟨rfl, rfl⟩ := bad (by omega)
      repeat' first | (refine RegP.enter ?_; conv => whnf) | (refine DrawP.range (by kernel_rfl) ?_; conv => whnf) | (refine BuildP.frz ⟨rfl, ?_⟩; conv => whnf) | (refine BoxP.row ?_; conv => whnf) | (refine And.intro Nat.zero_lt_one ?_; conv => whnf) | (refine And.intro (Nat.succ_pos _) ?_; conv => whnf) | fail
      refine ⟨(), _, rfl, Sub.of_check [((0,0,0), .old true (0,0,0))] ?_ (by repeat' first | exact Gen0.emp | exact Gen0.ofH rfl | refine Gen0.put ?_ (by decide) | refine Gen0.put0 ?_ ⟨_, rfl⟩)⟩
      conv => whnf
      (iterate 3 ((all_goals try (conv => whnf)); (repeat' first | exact True.intro | (refine And.intro ?_ ?_) | rfl | exact fun _ h => h | exact .inl rfl | exact none_some | exact .inr ⟨rfl, rfl, fun _ _ => rfl⟩ | exact .inr ⟨rfl, rfl, lt1 rfl⟩ | exact .inr ⟨rfl, rfl, lt2 rfl rfl⟩ | exact .inr ⟨rfl, rfl, lt3 rfl rfl rfl⟩ | fail)))
    refine call_mm [((0,0,0), .old true (0,0,0))] 2 85 (take_yes (a - (5 + (szL 0 (list.take i) : Int))) (2 + ((Lib.itoa (i : Int)).length : Int)) (by omega) (by omega) c1) ?_ ?_ ?_
    · conv => whnf
      (iterate 3 ((all_goals try (conv => whnf)); (repeat' first | exact True.intro | (refine And.intro ?_ ?_) | rfl | exact fun _ h => h | exact .inl rfl | exact none_some | exact .inr ⟨rfl, rfl, fun _ _ => rfl⟩ | exact .inr ⟨rfl, rfl, lt1 rfl⟩ | exact .inr ⟨rfl, rfl, lt2 rfl rfl⟩ | exact .inr ⟨rfl, rfl, lt3 rfl rfl rfl⟩ | fail)))
      all_goals exact wrap64 (show -9223372036854775808 ≤ 2 + ((Lib.itoa (i : Int)).length : Int) by omega) (show 2 + ((Lib.itoa (i : Int)).length : Int) < 9223372036854775808 by omega)
    · intro _; conv => whnf
      (iterate 3 ((all_goals try (conv => whnf)); (repeat' first | exact True.intro | (refine And.intro ?_ ?_) | rfl | exact fun _ h => h | exact .inl rfl | exact none_some | exact .inr ⟨rfl, rfl, fun _ _ => rfl⟩ | exact .inr ⟨rfl, rfl, lt1 rfl⟩ | exact .inr ⟨rfl, rfl, lt2 rfl rfl⟩ | exact .inr ⟨rfl, rfl, lt3 rfl rfl rfl⟩ | fail)))
    intro x; conv => whnf
    have hmem : list.getD i default ∈ list := by simp [hlt]
    have hsm := GV.sizeOf_list (k := kind) (n := int) (t := text) (d := doc) hmem
    by_cases c3 : (((list.getD i default).sz : Nat) : Int) ≤ a - (5 + (szL 0 (list.take i) : Int)) - (2 + ((Lib.itoa (i : Int)).length : Int))
    rotate_left
    · refine call_mm [((0,0,0), .old true (0,0,0))] 2 90 (ih (list.getD i default) (by omega) (a - (5 + (szL 0 (list.take i) : Int)) - (2 + ((Lib.itoa (i : Int)).length : Int))) (by omega) (by omega) (.no (by omega))) ?_ ?_ ?_
      · conv => whnf
        (iterate 3 ((all_goals try (conv => whnf)); (repeat' first | exact True.intro | (refine And.intro ?_ ?_) | rfl | exact fun _ h => h | exact .inl rfl | exact none_some | exact .inr ⟨rfl, rfl, fun _ _ => rfl⟩ | exact .inr ⟨rfl, rfl, lt1 rfl⟩ | exact .inr ⟨rfl, rfl, lt2 rfl rfl⟩ | exact .inr ⟨rfl, rfl, lt3 rfl rfl rfl⟩ | fail)))
      · intro _; conv => whnf
        (iterate 3 ((all_goals try (conv => whnf)); (repeat' first | exact True.intro | (refine And.intro ?_ ?_) | rfl | exact fun _ h => h | exact .inl rfl | exact none_some | exact .inr ⟨rfl, rfl, fun _ _ => rfl⟩ | exact .inr ⟨rfl, rfl, lt1 rfl⟩ | exact .inr ⟨rfl, rfl, lt2 rfl rfl⟩ | exact .inr ⟨rfl, rfl, lt3 rfl rfl rfl⟩ | fail)))
      intro x; conv => whnf
      obtain ⟨rfl, rfl⟩ := bad (by omega)
      repeat' first | (refine RegP.enter ?_; conv => whnf) | (refine DrawP.range (by kernel_rfl) ?_; conv => whnf) | (refine BuildP.frz ⟨rfl, ?_⟩; conv => whnf) | (refine BoxP.row ?_; conv => whnf) | (refine And.intro Nat.zero_lt_one ?_; conv => whnf) | (refine And.intro (Nat.succ_pos _) ?_; conv => whnf) | fail
      refine ⟨(), _, rfl, Sub.of_check [((0,0,0), .old true (0,0,0))] ?_ (by repeat' first | exact Gen0.emp | exact Gen0.ofH rfl | refine Gen0.put ?_ (by decide) | refine Gen0.put0 ?_ ⟨_, rfl⟩)⟩
      conv => whnf
      (iterate 3 ((all_goals try (conv => whnf)); (repeat' first | exact True.intro | (refine And.intro ?_ ?_) | rfl | exact fun _ h => h | exact .inl rfl | exact none_some | exact .inr ⟨rfl, rfl, fun _ _ => rfl⟩ | exact .inr ⟨rfl, rfl, lt1 rfl⟩ | exact .inr ⟨rfl, rfl, lt2 rfl rfl⟩ | exact .inr ⟨rfl, rfl, lt3 rfl rfl rfl⟩ | fail)))
    refine call_mm [((0,0,0), .old true (0,0,0))] 2 90 (ih (list.getD i default) (by omega) (a - (5 + (szL 0 (list.take i) : Int)) - (2 + ((Lib.itoa (i : Int)).length : Int))) (by omega) (by omega) (.yes c3)) ?_ ?_ ?_
    · conv => whnf
      (iterate 3 ((all_goals try (conv => whnf)); (repeat' first | exact True.intro | (refine And.intro ?_ ?_) | rfl | exact fun _ h => h | exact .inl rfl | exact none_some | exact .inr ⟨rfl, rfl, fun _ _ => rfl⟩ | exact .inr ⟨rfl, rfl, lt1 rfl⟩ | exact .inr ⟨rfl, rfl, lt2 rfl rfl⟩ | exact .inr ⟨rfl, rfl, lt3 rfl rfl rfl⟩ | fail)))
    · intro _; conv => whnf
      (iterate 3 ((all_goals try (conv => whnf)); (repeat' first | exact True.intro | (refine And.intro ?_ ?_) | rfl | exact fun _ h => h | exact .inl rfl | exact none_some | exact .inr ⟨rfl, rfl, fun _ _ => rfl⟩ | exact .inr ⟨rfl, rfl, lt1 rfl⟩ | exact .inr ⟨rfl, rfl, lt2 rfl rfl⟩ | exact .inr ⟨rfl, rfl, lt3 rfl rfl rfl⟩ | fail)))
    intro x; conv => whnf
    repeat' first | (refine RegP.enter ?_; conv => whnf) | (refine DrawP.range (by kernel_rfl) ?_; conv => whnf) | (refine BuildP.frz ⟨rfl, ?_⟩; conv => whnf) | (refine BoxP.row ?_; conv => whnf) | (refine And.intro Nat.zero_lt_one ?_; conv => whnf) | (refine And.intro (Nat.succ_pos _) ?_; conv => whnf) | fail
    refine ⟨⟨i + 1, hlt, by omega⟩, (by show list.length - (i + 1) < list.length - i; omega), Sub.of_check [((0,0,0), .old true (0,0,0))] ?_ (by repeat' first | exact Gen0.emp | exact Gen0.ofH rfl | refine Gen0.put ?_ (by decide) | refine Gen0.put0 ?_ ⟨_, rfl⟩)⟩
    conv => whnf
    (iterate 3 ((all_goals try (conv => whnf)); (repeat' first | exact True.intro | (refine And.intro ?_ ?_) | rfl | exact fun _ h => h | exact .inl rfl | exact none_some | exact .inr ⟨rfl, rfl, fun _ _ => rfl⟩ | exact .inr ⟨rfl, rfl, lt1 rfl⟩ | exact .inr ⟨rfl, rfl, lt2 rfl rfl⟩ | exact .inr ⟨rfl, rfl, lt3 rfl rfl rfl⟩ | fail)))
    all_goals first | exact wrap_succ hlt hR | (show _ = a - (5 + (szL 0 (list.take (i + 1)) : Int)); omega)
  try rw [hb8]
  conv => whnf
  repeat' first | (refine RegP.enter ?_; conv => whnf) | (refine DrawP.range (by kernel_rfl) ?_; conv => whnf) | (refine BuildP.frz ⟨rfl, ?_⟩; conv => whnf) | (refine BoxP.row ?_; conv => whnf) | (refine And.intro Nat.zero_lt_one ?_; conv => whnf) | (refine And.intro (Nat.succ_pos _) ?_; conv => whnf) | fail
  have hs0 : sz = 0 := by simp [GV.kind] at hb hb2 hb3 hb4 hb5 hb6 hb7 hb8; rw [← hs]; simp [GV.sz, hb, hb2, hb3, hb4, hb5, hb6, hb7, hb8]
  obtain ⟨rfl, rfl⟩ := good (by omega)
  refine ⟨(), _, rfl, Sub.of_check [((0,0,0), .old true (0,0,0))] ?_ (by repeat' first | exact Gen0.emp | exact Gen0.ofH rfl | refine Gen0.put ?_ (by decide) | refine Gen0.put0 ?_ ⟨_, rfl⟩)⟩
  conv => whnf
  (iterate 3 ((all_goals try (conv => whnf)); (repeat' first | exact True.intro | (refine And.intro ?_ ?_) | rfl | exact fun _ h => h | exact .inl rfl | exact none_some | exact .inr ⟨rfl, rfl, fun _ _ => rfl⟩ | exact .inr ⟨rfl, rfl, lt1 rfl⟩ | exact .inr ⟨rfl, rfl, lt2 rfl rfl⟩ | exact .inr ⟨rfl, rfl, lt3 rfl rfl rfl⟩ | fail)))
  omega
end Go.Eng
namespace Go.Eng
open Go.Proofs
set_option maxRecDepth 10000
theorem weigh_ok (g : GV) (a : Int) (h0 : 0 ≤ a) (h1 : a ≤ 65536) {b : Bool} {r : Int} (hr : WR a g.sz b r) :
    MSpec cxA 129 [.ptr (0,0,0) 0 0, .agg g.cells] [((0,0,0), .cells 1 8 [[.int a]])] (fun _ : Unit => .ret (.bool b)) (fun _ => [((0,0,0), .cells 1 8 [[.int r]])]) := weigh_spec _ g (Nat.lt_succ_self _) a h0 h1 hr
theorem size_ok (g : GV) : PSpec cxA 67 [.agg g.cells] (.ret (.int (sizeM g))) := by
  refine PSpec.of_WC cxA_ok Tryz.func67 rfl Tryz.call67 (Nat.le_of_ble_eq_true rfl) (g := 1) ?_
  conv => whnf
  repeat' first | (refine RegP.enter ?_; conv => whnf) | (refine DrawP.range (by kernel_rfl) ?_; conv => whnf) | (refine BuildP.frz ⟨rfl, ?_⟩; conv => whnf) | (refine BoxP.row ?_; conv => whnf) | (refine And.intro Nat.zero_lt_one ?_; conv => whnf) | (refine And.intro (Nat.succ_pos _) ?_; conv => whnf) | fail
  by_cases h : (g.sz : Int) ≤ 65536
  · refine call_mm [((0,0,0), .old true (1,5,0))] 1 8 (weigh_ok g 65536 (by omega) (by omega) (.yes h)) ?_ ?_ ?_
    · conv => whnf
      (iterate 3 ((all_goals try (conv => whnf)); (repeat' first | exact True.intro | (refine And.intro ?_ ?_) | rfl | exact fun _ h => h | exact .inl rfl | exact none_some | exact .inr ⟨rfl, rfl, fun _ _ => rfl⟩ | exact .inr ⟨rfl, rfl, lt1 rfl⟩ | exact .inr ⟨rfl, rfl, lt2 rfl rfl⟩ | exact .inr ⟨rfl, rfl, lt3 rfl rfl rfl⟩ | fail)))
    · intro _; conv => whnf
      (iterate 3 ((all_goals try (conv => whnf)); (repeat' first | exact True.intro | (refine And.intro ?_ ?_) | rfl | exact fun _ h => h | exact .inl rfl | exact none_some | exact .inr ⟨rfl, rfl, fun _ _ => rfl⟩ | exact .inr ⟨rfl, rfl, lt1 rfl⟩ | exact .inr ⟨rfl, rfl, lt2 rfl rfl⟩ | exact .inr ⟨rfl, rfl, lt3 rfl rfl rfl⟩ | fail)))
    intro x; conv => whnf
    repeat' first | (refine RegP.enter ?_; conv => whnf) | (refine DrawP.range (by kernel_rfl) ?_; conv => whnf) | (refine BuildP.frz ⟨rfl, ?_⟩; conv => whnf) | (refine BoxP.row ?_; conv => whnf) | (refine And.intro Nat.zero_lt_one ?_; conv => whnf) | (refine And.intro (Nat.succ_pos _) ?_; conv => whnf) | fail
    refine Ent.of_check ?_ rfl
    conv => whnf
    (iterate 3 ((all_goals try (conv => whnf)); (repeat' first | exact True.intro | (refine And.intro ?_ ?_) | rfl | exact fun _ h => h | exact .inl rfl | exact none_some | exact .inr ⟨rfl, rfl, fun _ _ => rfl⟩ | exact .inr ⟨rfl, rfl, lt1 rfl⟩ | exact .inr ⟨rfl, rfl, lt2 rfl rfl⟩ | exact .inr ⟨rfl, rfl, lt3 rfl rfl rfl⟩ | fail)))
    unfold sizeM
    rw [if_pos (by omega), wrap64 (by omega) (by omega)]; omega
  · refine call_mm [((0,0,0), .old true (1,5,0))] 1 8 (weigh_ok g 65536 (by omega) (by omega) (.no (by omega))) ?_ ?_ ?_
    · conv => whnf
      (iterate 3 ((all_goals try (conv => whnf)); (repeat' first | exact True.intro | (refine And.intro ?_ ?_) | rfl | exact fun _ h => h | exact .inl rfl | exact none_some | exact .inr ⟨rfl, rfl, fun _ _ => rfl⟩ | exact .inr ⟨rfl, rfl, lt1 rfl⟩ | exact .inr ⟨rfl, rfl, lt2 rfl rfl⟩ | exact .inr ⟨rfl, rfl, lt3 rfl rfl rfl⟩ | fail)))
    · intro _; conv => whnf
      (iterate 3 ((all_goals try (conv => whnf)); (repeat' first | exact True.intro | (refine And.intro ?_ ?_) | rfl | exact fun _ h => h | exact .inl rfl | exact none_some | exact .inr ⟨rfl, rfl, fun _ _ => rfl⟩ | exact .inr ⟨rfl, rfl, lt1 rfl⟩ | exact .inr ⟨rfl, rfl, lt2 rfl rfl⟩ | exact .inr ⟨rfl, rfl, lt3 rfl rfl rfl⟩ | fail)))
    intro x; conv => whnf
    repeat' first | (refine RegP.enter ?_; conv => whnf) | (refine DrawP.range (by kernel_rfl) ?_; conv => whnf) | (refine BuildP.frz ⟨rfl, ?_⟩; conv => whnf) | (refine BoxP.row ?_; conv => whnf) | (refine And.intro Nat.zero_lt_one ?_; conv => whnf) | (refine And.intro (Nat.succ_pos _) ?_; conv => whnf) | fail
    refine Ent.of_check ?_ rfl
    conv => whnf
    (iterate 3 ((all_goals try (conv => whnf)); (repeat' first | exact True.intro | (refine And.intro ?_ ?_) | rfl | exact fun _ h => h | exact .inl rfl | exact none_some | exact .inr ⟨rfl, rfl, fun _ _ => rfl⟩ | exact .inr ⟨rfl, rfl, lt1 rfl⟩ | exact .inr ⟨rfl, rfl, lt2 rfl rfl⟩ | exact .inr ⟨rfl, rfl, lt3 rfl rfl rfl⟩ | fail)))
    unfold sizeM
    rw [if_neg (by omega)]
set_option maxHeartbeats 4000000 in
theorem wrong_ok (g : GV) : PSpec cxA 130 [.agg g.cells] (.ret (.bool (wrongM g))) := by
  obtain ⟨kind, int, text, list, doc⟩ := g
  refine PSpec.of_WC cxA_ok Tryz.func130 rfl Tryz.call130 (Nat.le_of_ble_eq_true rfl) (g := 1) ?_
  conv => whnf
  repeat' first | (refine RegP.enter ?_; conv => whnf) | (refine DrawP.range (by kernel_rfl) ?_; conv => whnf) | (refine BuildP.frz ⟨rfl, ?_⟩; conv => whnf) | (refine BoxP.row ?_; conv => whnf) | (refine And.intro Nat.zero_lt_one ?_; conv => whnf) | (refine And.intro (Nat.succ_pos _) ?_; conv => whnf) | (refine call_same (valid_ok _) rfl ?_; conv => whnf) | (refine br (fun hb => ?_) (fun hb => ?_) <;> (try rw [hb]) <;> (conv => whnf)) | fail
  all_goals (refine Ent.of_check ?_ rfl)
  all_goals (conv => whnf)
  (iterate 3 ((all_goals try (conv => whnf)); (repeat' first | exact True.intro | (refine And.intro ?_ ?_) | rfl | exact fun _ h => h | exact .inl rfl | exact none_some | exact .inr ⟨rfl, rfl, fun _ _ => rfl⟩ | exact .inr ⟨rfl, rfl, lt1 rfl⟩ | exact .inr ⟨rfl, rfl, lt2 rfl rfl⟩ | exact .inr ⟨rfl, rfl, lt3 rfl rfl rfl⟩ | fail)))
  all_goals (try simp only [Bool.not_eq_true', Bool.not_eq_false', dT, dF] at *)
  all_goals (cases list <;> cases doc <;> simp_all [dT, dF, wrongM, GV.kind, GV.int, GV.text, GV.list, GV.doc])
  all_goals omega
set_option maxHeartbeats 4000000 in
theorem name_ok (s : ByteArray) : PSpec cxA 131 [.str s] (.ret (.bool (nameM s))) := by
  refine PSpec.of_WC cxA_ok Tryz.func131 rfl Tryz.call131 (Nat.le_of_ble_eq_true rfl) (g := 1) ?_
  conv => whnf
  repeat' first | (refine RegP.enter ?_; conv => whnf) | (refine DrawP.range (by kernel_rfl) ?_; conv => whnf) | (refine BuildP.frz ⟨rfl, ?_⟩; conv => whnf) | (refine BoxP.row ?_; conv => whnf) | (refine And.intro Nat.zero_lt_one ?_; conv => whnf) | (refine And.intro (Nat.succ_pos _) ?_; conv => whnf) | (refine call_same (valid_ok _) rfl ?_; conv => whnf) | (refine call_same (indexByte_ok _ 0) rfl ?_; conv => whnf) | (refine br (fun hb => ?_) (fun hb => ?_) <;> (try rw [hb]) <;> (conv => whnf)) | fail
  all_goals (refine Ent.of_check ?_ rfl)
  all_goals (conv => whnf)
  (iterate 3 ((all_goals try (conv => whnf)); (repeat' first | exact True.intro | (refine And.intro ?_ ?_) | rfl | exact fun _ h => h | exact .inl rfl | exact none_some | exact .inr ⟨rfl, rfl, fun _ _ => rfl⟩ | exact .inr ⟨rfl, rfl, lt1 rfl⟩ | exact .inr ⟨rfl, rfl, lt2 rfl rfl⟩ | exact .inr ⟨rfl, rfl, lt3 rfl rfl rfl⟩ | fail)))
  all_goals (try simp only [Bool.not_eq_true', Bool.not_eq_false', dT, dF] at *)
  all_goals (try simp_all [dT, dF, nameM])
  all_goals (try (intros; omega))
end Go.Eng

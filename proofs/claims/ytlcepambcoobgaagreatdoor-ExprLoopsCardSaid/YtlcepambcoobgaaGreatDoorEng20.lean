/- Eng20: an engine for the program's code, and walks of its functions (Wq Wr Ws). -/
import Derived.Test.YtlcepambcoobgaaGreatDoorEng19
namespace Go.Eng
open Go.Proofs
set_option maxRecDepth 10000
theorem step_ok {ev : Nd → GV → List (ByteArray × GV) → Int → Rs GV} (hev : EvOk ev) (nd : Nd) (doc : GV) (s : List (ByteArray × GV)) (k : Int) (hk : StepOk k) :
    RsSpec 133 [.ptr (0,0,0) 0 0, nd.av, scAV s] doc k (stepF ev nd doc s k) ∧ RsBd (k + 1) (stepF ev nd doc s k) := by
  unfold stepF
  by_cases h : 20000 ≤ k
  · rw [decide_eq_true h]
    refine ⟨?_, hk⟩
    refine MSpec.of_WC cxA_ok Tryz.func133 rfl Tryz.call133 (Nat.le_of_ble_eq_true rfl) (g := 1) ?_
    conv => whnf
    repeat' ((first | refine RegP.enter ?_ | refine DrawP.range (by kernel_rfl) ?_ | refine BuildP.frz ⟨rfl, ?_⟩ | refine BoxP.row ?_ | refine And.intro (Nat.succ_pos _) ?_ | fail); conv => whnf)
    refine call_mm [((0,0,0), .old true (0,0,0))] 1 8 (step_no doc k h) ?_ ?_ ?_
    · conv => whnf
      (iterate 3 ((all_goals try (conv => whnf)); (repeat' first | exact ⟨⟩ | refine And.intro ?_ ?_ | rfl | exact fun _ h => h | exact .inl rfl | exact none_some | exact .inr in4 | fail)))
    · intro _; conv => whnf
      (iterate 3 ((all_goals try (conv => whnf)); (repeat' first | exact ⟨⟩ | refine And.intro ?_ ?_ | rfl | exact fun _ h => h | exact .inl rfl | exact none_some | exact .inr in4 | fail)))
    intro x; conv => whnf
    refine ⟨(), _, rfl, Sub.of_check [((0,0,0), .old true (0,0,0))] ?_ (by repeat' first | exact Gen0.emp | exact Gen0.ofH rfl | refine Gen0.put ?_ (by decide) | refine Gen0.put0 ?_ ⟨_, rfl⟩)⟩
    conv => whnf
    (iterate 3 ((all_goals try (conv => whnf)); (repeat' first | exact ⟨⟩ | refine And.intro ?_ ?_ | rfl | exact fun _ h => h | exact .inl rfl | exact none_some | exact .inr in4 | fail)))
  · rw [decide_eq_false h]
    have hk2 : StepOk (k + 1) := ⟨by have := hk.1; omega, by omega⟩
    obtain ⟨h1, h2⟩ := hev nd doc s (k + 1) hk2
    refine ⟨?_, h2⟩
    show RsSpec 133 [.ptr (0,0,0) 0 0, nd.av, scAV s] doc k (ev nd doc s (k + 1))
    generalize ev nd doc s (k + 1) = rs at *
    cases rs with
    | unk => trivial
    | ok g k' =>
      refine MSpec.of_WC cxA_ok Tryz.func133 rfl Tryz.call133 (Nat.le_of_ble_eq_true rfl) (g := 1) ?_
      conv => whnf
      repeat' ((first | refine RegP.enter ?_ | refine DrawP.range (by kernel_rfl) ?_ | refine BuildP.frz ⟨rfl, ?_⟩ | refine BoxP.row ?_ | refine And.intro (Nat.succ_pos _) ?_ | fail); conv => whnf)
      refine call_mm [((0,0,0), .old true (0,0,0))] 1 8 (step_yes doc k hk.1 (by omega)) ?_ ?_ ?_
      · conv => whnf
        (iterate 3 ((all_goals try (conv => whnf)); (repeat' first | exact ⟨⟩ | refine And.intro ?_ ?_ | rfl | exact fun _ h => h | exact .inl rfl | exact none_some | exact .inr in4 | fail)))
      · intro _; conv => whnf
        (iterate 3 ((all_goals try (conv => whnf)); (repeat' first | exact ⟨⟩ | refine And.intro ?_ ?_ | rfl | exact fun _ h => h | exact .inl rfl | exact none_some | exact .inr in4 | fail)))
      intro x; conv => whnf
      repeat' ((first | refine RegP.enter ?_ | refine DrawP.range (by kernel_rfl) ?_ | refine BuildP.frz ⟨rfl, ?_⟩ | refine BoxP.row ?_ | refine And.intro (Nat.succ_pos _) ?_ | fail); conv => whnf)
      cases nd with
      | lit a =>
        refine call_mm [((0,0,0), .old true (0,0,0))] 1 12 (h1) ?_ ?_ ?_
        · conv => whnf
          (iterate 3 ((all_goals try (conv => whnf)); (repeat' first | exact ⟨⟩ | refine And.intro ?_ ?_ | rfl | exact fun _ h => h | exact .inl rfl | exact none_some | exact .inr in4 | fail)))
          all_goals first | exact leK_refl _ (idf_sc _)
        · intro _; conv => whnf
          (iterate 3 ((all_goals try (conv => whnf)); (repeat' first | exact ⟨⟩ | refine And.intro ?_ ?_ | rfl | exact fun _ h => h | exact .inl rfl | exact none_some | exact .inr in4 | fail)))
        intro x; conv => whnf
        repeat' ((first | refine RegP.enter ?_ | refine DrawP.range (by kernel_rfl) ?_ | refine BuildP.frz ⟨rfl, ?_⟩ | refine BoxP.row ?_ | refine And.intro (Nat.succ_pos _) ?_ | fail); conv => whnf)
        refine ⟨(), _, rfl, Sub.of_check [((0,0,0), .old true (0,0,0))] ?_ (by repeat' first | exact Gen0.emp | exact Gen0.ofH rfl | refine Gen0.put ?_ (by decide) | refine Gen0.put0 ?_ ⟨_, rfl⟩)⟩
        conv => whnf
        (iterate 3 ((all_goals try (conv => whnf)); (repeat' first | exact ⟨⟩ | refine And.intro ?_ ?_ | rfl | exact fun _ h => h | exact .inl rfl | exact none_some | exact .inr in4 | fail)))
      | con a =>
        refine call_mm [((0,0,0), .old true (0,0,0))] 1 12 (h1) ?_ ?_ ?_
        · conv => whnf
          (iterate 3 ((all_goals try (conv => whnf)); (repeat' first | exact ⟨⟩ | refine And.intro ?_ ?_ | rfl | exact fun _ h => h | exact .inl rfl | exact none_some | exact .inr in4 | fail)))
          all_goals first | exact leK_refl _ (idf_sc _)
        · intro _; conv => whnf
          (iterate 3 ((all_goals try (conv => whnf)); (repeat' first | exact ⟨⟩ | refine And.intro ?_ ?_ | rfl | exact fun _ h => h | exact .inl rfl | exact none_some | exact .inr in4 | fail)))
        intro x; conv => whnf
        repeat' ((first | refine RegP.enter ?_ | refine DrawP.range (by kernel_rfl) ?_ | refine BuildP.frz ⟨rfl, ?_⟩ | refine BoxP.row ?_ | refine And.intro (Nat.succ_pos _) ?_ | fail); conv => whnf)
        refine ⟨(), _, rfl, Sub.of_check [((0,0,0), .old true (0,0,0))] ?_ (by repeat' first | exact Gen0.emp | exact Gen0.ofH rfl | refine Gen0.put ?_ (by decide) | refine Gen0.put0 ?_ ⟨_, rfl⟩)⟩
        conv => whnf
        (iterate 3 ((all_goals try (conv => whnf)); (repeat' first | exact ⟨⟩ | refine And.intro ?_ ?_ | rfl | exact fun _ h => h | exact .inl rfl | exact none_some | exact .inr in4 | fail)))
      | fld a =>
        refine call_mm [((0,0,0), .old true (0,0,0))] 1 12 (h1) ?_ ?_ ?_
        · conv => whnf
          (iterate 3 ((all_goals try (conv => whnf)); (repeat' first | exact ⟨⟩ | refine And.intro ?_ ?_ | rfl | exact fun _ h => h | exact .inl rfl | exact none_some | exact .inr in4 | fail)))
          all_goals first | exact leK_refl _ (idf_sc _)
        · intro _; conv => whnf
          (iterate 3 ((all_goals try (conv => whnf)); (repeat' first | exact ⟨⟩ | refine And.intro ?_ ?_ | rfl | exact fun _ h => h | exact .inl rfl | exact none_some | exact .inr in4 | fail)))
        intro x; conv => whnf
        repeat' ((first | refine RegP.enter ?_ | refine DrawP.range (by kernel_rfl) ?_ | refine BuildP.frz ⟨rfl, ?_⟩ | refine BoxP.row ?_ | refine And.intro (Nat.succ_pos _) ?_ | fail); conv => whnf)
        refine ⟨(), _, rfl, Sub.of_check [((0,0,0), .old true (0,0,0))] ?_ (by repeat' first | exact Gen0.emp | exact Gen0.ofH rfl | refine Gen0.put ?_ (by decide) | refine Gen0.put0 ?_ ⟨_, rfl⟩)⟩
        conv => whnf
        (iterate 3 ((all_goals try (conv => whnf)); (repeat' first | exact ⟨⟩ | refine And.intro ?_ ?_ | rfl | exact fun _ h => h | exact .inl rfl | exact none_some | exact .inr in4 | fail)))
      | var a b =>
        refine call_mm [((0,0,0), .old true (0,0,0))] 1 12 (h1) ?_ ?_ ?_
        · conv => whnf
          (iterate 3 ((all_goals try (conv => whnf)); (repeat' first | exact ⟨⟩ | refine And.intro ?_ ?_ | rfl | exact fun _ h => h | exact .inl rfl | exact none_some | exact .inr in4 | fail)))
          all_goals first | exact leK_refl _ (idf_sc _)
        · intro _; conv => whnf
          (iterate 3 ((all_goals try (conv => whnf)); (repeat' first | exact ⟨⟩ | refine And.intro ?_ ?_ | rfl | exact fun _ h => h | exact .inl rfl | exact none_some | exact .inr in4 | fail)))
        intro x; conv => whnf
        repeat' ((first | refine RegP.enter ?_ | refine DrawP.range (by kernel_rfl) ?_ | refine BuildP.frz ⟨rfl, ?_⟩ | refine BoxP.row ?_ | refine And.intro (Nat.succ_pos _) ?_ | fail); conv => whnf)
        refine ⟨(), _, rfl, Sub.of_check [((0,0,0), .old true (0,0,0))] ?_ (by repeat' first | exact Gen0.emp | exact Gen0.ofH rfl | refine Gen0.put ?_ (by decide) | refine Gen0.put0 ?_ ⟨_, rfl⟩)⟩
        conv => whnf
        (iterate 3 ((all_goals try (conv => whnf)); (repeat' first | exact ⟨⟩ | refine And.intro ?_ ?_ | rfl | exact fun _ h => h | exact .inl rfl | exact none_some | exact .inr in4 | fail)))
      | lst a =>
        refine call_mm [((0,0,0), .old true (0,0,0))] 1 12 (h1) ?_ ?_ ?_
        · conv => whnf
          (iterate 3 ((all_goals try (conv => whnf)); (repeat' first | exact ⟨⟩ | refine And.intro ?_ ?_ | rfl | exact fun _ h => h | exact .inl rfl | exact none_some | exact .inr in4 | fail)))
          all_goals first | exact leK_refl _ (idf_sc _)
        · intro _; conv => whnf
          (iterate 3 ((all_goals try (conv => whnf)); (repeat' first | exact ⟨⟩ | refine And.intro ?_ ?_ | rfl | exact fun _ h => h | exact .inl rfl | exact none_some | exact .inr in4 | fail)))
        intro x; conv => whnf
        repeat' ((first | refine RegP.enter ?_ | refine DrawP.range (by kernel_rfl) ?_ | refine BuildP.frz ⟨rfl, ?_⟩ | refine BoxP.row ?_ | refine And.intro (Nat.succ_pos _) ?_ | fail); conv => whnf)
        refine ⟨(), _, rfl, Sub.of_check [((0,0,0), .old true (0,0,0))] ?_ (by repeat' first | exact Gen0.emp | exact Gen0.ofH rfl | refine Gen0.put ?_ (by decide) | refine Gen0.put0 ?_ ⟨_, rfl⟩)⟩
        conv => whnf
        (iterate 3 ((all_goals try (conv => whnf)); (repeat' first | exact ⟨⟩ | refine And.intro ?_ ?_ | rfl | exact fun _ h => h | exact .inl rfl | exact none_some | exact .inr in4 | fail)))
      | docm a =>
        refine call_mm [((0,0,0), .old true (0,0,0))] 1 12 (h1) ?_ ?_ ?_
        · conv => whnf
          (iterate 3 ((all_goals try (conv => whnf)); (repeat' first | exact ⟨⟩ | refine And.intro ?_ ?_ | rfl | exact fun _ h => h | exact .inl rfl | exact none_some | exact .inr in4 | fail)))
          all_goals first | exact leK_refl _ (idf_sc _)
        · intro _; conv => whnf
          (iterate 3 ((all_goals try (conv => whnf)); (repeat' first | exact ⟨⟩ | refine And.intro ?_ ?_ | rfl | exact fun _ h => h | exact .inl rfl | exact none_some | exact .inr in4 | fail)))
        intro x; conv => whnf
        repeat' ((first | refine RegP.enter ?_ | refine DrawP.range (by kernel_rfl) ?_ | refine BuildP.frz ⟨rfl, ?_⟩ | refine BoxP.row ?_ | refine And.intro (Nat.succ_pos _) ?_ | fail); conv => whnf)
        refine ⟨(), _, rfl, Sub.of_check [((0,0,0), .old true (0,0,0))] ?_ (by repeat' first | exact Gen0.emp | exact Gen0.ofH rfl | refine Gen0.put ?_ (by decide) | refine Gen0.put0 ?_ ⟨_, rfl⟩)⟩
        conv => whnf
        (iterate 3 ((all_goals try (conv => whnf)); (repeat' first | exact ⟨⟩ | refine And.intro ?_ ?_ | rfl | exact fun _ h => h | exact .inl rfl | exact none_some | exact .inr in4 | fail)))
      | call a b =>
        refine call_mm [((0,0,0), .old true (0,0,0))] 1 12 (h1) ?_ ?_ ?_
        · conv => whnf
          (iterate 3 ((all_goals try (conv => whnf)); (repeat' first | exact ⟨⟩ | refine And.intro ?_ ?_ | rfl | exact fun _ h => h | exact .inl rfl | exact none_some | exact .inr in4 | fail)))
          all_goals first | exact leK_refl _ (idf_sc _)
        · intro _; conv => whnf
          (iterate 3 ((all_goals try (conv => whnf)); (repeat' first | exact ⟨⟩ | refine And.intro ?_ ?_ | rfl | exact fun _ h => h | exact .inl rfl | exact none_some | exact .inr in4 | fail)))
        intro x; conv => whnf
        repeat' ((first | refine RegP.enter ?_ | refine DrawP.range (by kernel_rfl) ?_ | refine BuildP.frz ⟨rfl, ?_⟩ | refine BoxP.row ?_ | refine And.intro (Nat.succ_pos _) ?_ | fail); conv => whnf)
        refine ⟨(), _, rfl, Sub.of_check [((0,0,0), .old true (0,0,0))] ?_ (by repeat' first | exact Gen0.emp | exact Gen0.ofH rfl | refine Gen0.put ?_ (by decide) | refine Gen0.put0 ?_ ⟨_, rfl⟩)⟩
        conv => whnf
        (iterate 3 ((all_goals try (conv => whnf)); (repeat' first | exact ⟨⟩ | refine And.intro ?_ ?_ | rfl | exact fun _ h => h | exact .inl rfl | exact none_some | exact .inr in4 | fail)))
      | loop op nm over first body =>
        rcases first with _ | f
        · skip
          refine call_mm [((0,0,0), .old true (0,0,0))] 1 12 (h1) ?_ ?_ ?_
          · conv => whnf
            (iterate 3 ((all_goals try (conv => whnf)); (repeat' first | exact ⟨⟩ | refine And.intro ?_ ?_ | rfl | exact fun _ h => h | exact .inl rfl | exact none_some | exact .inr in4 | fail)))
            all_goals first | exact leK_refl _ (idf_sc _) | exact leK_refl _ (idf_av over) | exact leK_refl _ (idf_av body)
          · intro _; conv => whnf
            (iterate 3 ((all_goals try (conv => whnf)); (repeat' first | exact ⟨⟩ | refine And.intro ?_ ?_ | rfl | exact fun _ h => h | exact .inl rfl | exact none_some | exact .inr in4 | fail)))
          intro x; conv => whnf
          repeat' ((first | refine RegP.enter ?_ | refine DrawP.range (by kernel_rfl) ?_ | refine BuildP.frz ⟨rfl, ?_⟩ | refine BoxP.row ?_ | refine And.intro (Nat.succ_pos _) ?_ | fail); conv => whnf)
          refine ⟨(), _, rfl, Sub.of_check [((0,0,0), .old true (0,0,0))] ?_ (by repeat' first | exact Gen0.emp | exact Gen0.ofH rfl | refine Gen0.put ?_ (by decide) | refine Gen0.put0 ?_ ⟨_, rfl⟩)⟩
          conv => whnf
          (iterate 3 ((all_goals try (conv => whnf)); (repeat' first | exact ⟨⟩ | refine And.intro ?_ ?_ | rfl | exact fun _ h => h | exact .inl rfl | exact none_some | exact .inr in4 | fail)))
        · skip
          refine call_mm [((0,0,0), .old true (0,0,0))] 1 12 (h1) ?_ ?_ ?_
          · conv => whnf
            (iterate 3 ((all_goals try (conv => whnf)); (repeat' first | exact ⟨⟩ | refine And.intro ?_ ?_ | rfl | exact fun _ h => h | exact .inl rfl | exact none_some | exact .inr in4 | fail)))
            all_goals first | exact leK_refl _ (idf_sc _) | exact leK_refl _ (idf_av over) | exact leK_refl _ (idf_av body) | exact leK_refl _ (idf_av f)
          · intro _; conv => whnf
            (iterate 3 ((all_goals try (conv => whnf)); (repeat' first | exact ⟨⟩ | refine And.intro ?_ ?_ | rfl | exact fun _ h => h | exact .inl rfl | exact none_some | exact .inr in4 | fail)))
          intro x; conv => whnf
          repeat' ((first | refine RegP.enter ?_ | refine DrawP.range (by kernel_rfl) ?_ | refine BuildP.frz ⟨rfl, ?_⟩ | refine BoxP.row ?_ | refine And.intro (Nat.succ_pos _) ?_ | fail); conv => whnf)
          refine ⟨(), _, rfl, Sub.of_check [((0,0,0), .old true (0,0,0))] ?_ (by repeat' first | exact Gen0.emp | exact Gen0.ofH rfl | refine Gen0.put ?_ (by decide) | refine Gen0.put0 ?_ ⟨_, rfl⟩)⟩
          conv => whnf
          (iterate 3 ((all_goals try (conv => whnf)); (repeat' first | exact ⟨⟩ | refine And.intro ?_ ?_ | rfl | exact fun _ h => h | exact .inl rfl | exact none_some | exact .inr in4 | fail)))
    | fail e k' =>
      refine MSpec.of_WC cxA_ok Tryz.func133 rfl Tryz.call133 (Nat.le_of_ble_eq_true rfl) (g := 1) ?_
      conv => whnf
      repeat' ((first | refine RegP.enter ?_ | refine DrawP.range (by kernel_rfl) ?_ | refine BuildP.frz ⟨rfl, ?_⟩ | refine BoxP.row ?_ | refine And.intro (Nat.succ_pos _) ?_ | fail); conv => whnf)
      refine call_mm [((0,0,0), .old true (0,0,0))] 1 8 (step_yes doc k hk.1 (by omega)) ?_ ?_ ?_
      · conv => whnf
        (iterate 3 ((all_goals try (conv => whnf)); (repeat' first | exact ⟨⟩ | refine And.intro ?_ ?_ | rfl | exact fun _ h => h | exact .inl rfl | exact none_some | exact .inr in4 | fail)))
      · intro _; conv => whnf
        (iterate 3 ((all_goals try (conv => whnf)); (repeat' first | exact ⟨⟩ | refine And.intro ?_ ?_ | rfl | exact fun _ h => h | exact .inl rfl | exact none_some | exact .inr in4 | fail)))
      intro x; conv => whnf
      repeat' ((first | refine RegP.enter ?_ | refine DrawP.range (by kernel_rfl) ?_ | refine BuildP.frz ⟨rfl, ?_⟩ | refine BoxP.row ?_ | refine And.intro (Nat.succ_pos _) ?_ | fail); conv => whnf)
      cases nd with
      | lit a =>
        refine call_mm [((0,0,0), .old true (0,0,0))] 1 12 (h1) ?_ ?_ ?_
        · conv => whnf
          (iterate 3 ((all_goals try (conv => whnf)); (repeat' first | exact ⟨⟩ | refine And.intro ?_ ?_ | rfl | exact fun _ h => h | exact .inl rfl | exact none_some | exact .inr in4 | fail)))
          all_goals first | exact leK_refl _ (idf_sc _)
        · intro _; conv => whnf
          (iterate 3 ((all_goals try (conv => whnf)); (repeat' first | exact ⟨⟩ | refine And.intro ?_ ?_ | rfl | exact fun _ h => h | exact .inl rfl | exact none_some | exact .inr in4 | fail)))
        intro x; conv => whnf
        refine ⟨(), _, rfl, Sub.of_check [((0,0,0), .old true (0,0,0))] ?_ (by repeat' first | exact Gen0.emp | exact Gen0.ofH rfl | refine Gen0.put ?_ (by decide) | refine Gen0.put0 ?_ ⟨_, rfl⟩)⟩
        conv => whnf
        (iterate 3 ((all_goals try (conv => whnf)); (repeat' first | exact ⟨⟩ | refine And.intro ?_ ?_ | rfl | exact fun _ h => h | exact .inl rfl | exact none_some | exact .inr in4 | fail)))
      | con a =>
        refine call_mm [((0,0,0), .old true (0,0,0))] 1 12 (h1) ?_ ?_ ?_
        · conv => whnf
          (iterate 3 ((all_goals try (conv => whnf)); (repeat' first | exact ⟨⟩ | refine And.intro ?_ ?_ | rfl | exact fun _ h => h | exact .inl rfl | exact none_some | exact .inr in4 | fail)))
          all_goals first | exact leK_refl _ (idf_sc _)
        · intro _; conv => whnf
          (iterate 3 ((all_goals try (conv => whnf)); (repeat' first | exact ⟨⟩ | refine And.intro ?_ ?_ | rfl | exact fun _ h => h | exact .inl rfl | exact none_some | exact .inr in4 | fail)))
        intro x; conv => whnf
        refine ⟨(), _, rfl, Sub.of_check [((0,0,0), .old true (0,0,0))] ?_ (by repeat' first | exact Gen0.emp | exact Gen0.ofH rfl | refine Gen0.put ?_ (by decide) | refine Gen0.put0 ?_ ⟨_, rfl⟩)⟩
        conv => whnf
        (iterate 3 ((all_goals try (conv => whnf)); (repeat' first | exact ⟨⟩ | refine And.intro ?_ ?_ | rfl | exact fun _ h => h | exact .inl rfl | exact none_some | exact .inr in4 | fail)))
      | fld a =>
        refine call_mm [((0,0,0), .old true (0,0,0))] 1 12 (h1) ?_ ?_ ?_
        · conv => whnf
          (iterate 3 ((all_goals try (conv => whnf)); (repeat' first | exact ⟨⟩ | refine And.intro ?_ ?_ | rfl | exact fun _ h => h | exact .inl rfl | exact none_some | exact .inr in4 | fail)))
          all_goals first | exact leK_refl _ (idf_sc _)
        · intro _; conv => whnf
          (iterate 3 ((all_goals try (conv => whnf)); (repeat' first | exact ⟨⟩ | refine And.intro ?_ ?_ | rfl | exact fun _ h => h | exact .inl rfl | exact none_some | exact .inr in4 | fail)))
        intro x; conv => whnf
        refine ⟨(), _, rfl, Sub.of_check [((0,0,0), .old true (0,0,0))] ?_ (by repeat' first | exact Gen0.emp | exact Gen0.ofH rfl | refine Gen0.put ?_ (by decide) | refine Gen0.put0 ?_ ⟨_, rfl⟩)⟩
        conv => whnf
        (iterate 3 ((all_goals try (conv => whnf)); (repeat' first | exact ⟨⟩ | refine And.intro ?_ ?_ | rfl | exact fun _ h => h | exact .inl rfl | exact none_some | exact .inr in4 | fail)))
      | var a b =>
        refine call_mm [((0,0,0), .old true (0,0,0))] 1 12 (h1) ?_ ?_ ?_
        · conv => whnf
          (iterate 3 ((all_goals try (conv => whnf)); (repeat' first | exact ⟨⟩ | refine And.intro ?_ ?_ | rfl | exact fun _ h => h | exact .inl rfl | exact none_some | exact .inr in4 | fail)))
          all_goals first | exact leK_refl _ (idf_sc _)
        · intro _; conv => whnf
          (iterate 3 ((all_goals try (conv => whnf)); (repeat' first | exact ⟨⟩ | refine And.intro ?_ ?_ | rfl | exact fun _ h => h | exact .inl rfl | exact none_some | exact .inr in4 | fail)))
        intro x; conv => whnf
        refine ⟨(), _, rfl, Sub.of_check [((0,0,0), .old true (0,0,0))] ?_ (by repeat' first | exact Gen0.emp | exact Gen0.ofH rfl | refine Gen0.put ?_ (by decide) | refine Gen0.put0 ?_ ⟨_, rfl⟩)⟩
        conv => whnf
        (iterate 3 ((all_goals try (conv => whnf)); (repeat' first | exact ⟨⟩ | refine And.intro ?_ ?_ | rfl | exact fun _ h => h | exact .inl rfl | exact none_some | exact .inr in4 | fail)))
      | lst a =>
        refine call_mm [((0,0,0), .old true (0,0,0))] 1 12 (h1) ?_ ?_ ?_
        · conv => whnf
          (iterate 3 ((all_goals try (conv => whnf)); (repeat' first | exact ⟨⟩ | refine And.intro ?_ ?_ | rfl | exact fun _ h => h | exact .inl rfl | exact none_some | exact .inr in4 | fail)))
          all_goals first | exact leK_refl _ (idf_sc _)
        · intro _; conv => whnf
          (iterate 3 ((all_goals try (conv => whnf)); (repeat' first | exact ⟨⟩ | refine And.intro ?_ ?_ | rfl | exact fun _ h => h | exact .inl rfl | exact none_some | exact .inr in4 | fail)))
        intro x; conv => whnf
        refine ⟨(), _, rfl, Sub.of_check [((0,0,0), .old true (0,0,0))] ?_ (by repeat' first | exact Gen0.emp | exact Gen0.ofH rfl | refine Gen0.put ?_ (by decide) | refine Gen0.put0 ?_ ⟨_, rfl⟩)⟩
        conv => whnf
        (iterate 3 ((all_goals try (conv => whnf)); (repeat' first | exact ⟨⟩ | refine And.intro ?_ ?_ | rfl | exact fun _ h => h | exact .inl rfl | exact none_some | exact .inr in4 | fail)))
      | docm a =>
        refine call_mm [((0,0,0), .old true (0,0,0))] 1 12 (h1) ?_ ?_ ?_
        · conv => whnf
          (iterate 3 ((all_goals try (conv => whnf)); (repeat' first | exact ⟨⟩ | refine And.intro ?_ ?_ | rfl | exact fun _ h => h | exact .inl rfl | exact none_some | exact .inr in4 | fail)))
          all_goals first | exact leK_refl _ (idf_sc _)
        · intro _; conv => whnf
          (iterate 3 ((all_goals try (conv => whnf)); (repeat' first | exact ⟨⟩ | refine And.intro ?_ ?_ | rfl | exact fun _ h => h | exact .inl rfl | exact none_some | exact .inr in4 | fail)))
        intro x; conv => whnf
        refine ⟨(), _, rfl, Sub.of_check [((0,0,0), .old true (0,0,0))] ?_ (by repeat' first | exact Gen0.emp | exact Gen0.ofH rfl | refine Gen0.put ?_ (by decide) | refine Gen0.put0 ?_ ⟨_, rfl⟩)⟩
        conv => whnf
        (iterate 3 ((all_goals try (conv => whnf)); (repeat' first | exact ⟨⟩ | refine And.intro ?_ ?_ | rfl | exact fun _ h => h | exact .inl rfl | exact none_some | exact .inr in4 | fail)))
      | call a b =>
        refine call_mm [((0,0,0), .old true (0,0,0))] 1 12 (h1) ?_ ?_ ?_
        · conv => whnf
          (iterate 3 ((all_goals try (conv => whnf)); (repeat' first | exact ⟨⟩ | refine And.intro ?_ ?_ | rfl | exact fun _ h => h | exact .inl rfl | exact none_some | exact .inr in4 | fail)))
          all_goals first | exact leK_refl _ (idf_sc _)
        · intro _; conv => whnf
          (iterate 3 ((all_goals try (conv => whnf)); (repeat' first | exact ⟨⟩ | refine And.intro ?_ ?_ | rfl | exact fun _ h => h | exact .inl rfl | exact none_some | exact .inr in4 | fail)))
        intro x; conv => whnf
        refine ⟨(), _, rfl, Sub.of_check [((0,0,0), .old true (0,0,0))] ?_ (by repeat' first | exact Gen0.emp | exact Gen0.ofH rfl | refine Gen0.put ?_ (by decide) | refine Gen0.put0 ?_ ⟨_, rfl⟩)⟩
        conv => whnf
        (iterate 3 ((all_goals try (conv => whnf)); (repeat' first | exact ⟨⟩ | refine And.intro ?_ ?_ | rfl | exact fun _ h => h | exact .inl rfl | exact none_some | exact .inr in4 | fail)))
      | loop op nm over first body =>
        rcases first with _ | f
        · skip
          refine call_mm [((0,0,0), .old true (0,0,0))] 1 12 (h1) ?_ ?_ ?_
          · conv => whnf
            (iterate 3 ((all_goals try (conv => whnf)); (repeat' first | exact ⟨⟩ | refine And.intro ?_ ?_ | rfl | exact fun _ h => h | exact .inl rfl | exact none_some | exact .inr in4 | fail)))
            all_goals first | exact leK_refl _ (idf_sc _) | exact leK_refl _ (idf_av over) | exact leK_refl _ (idf_av body)
          · intro _; conv => whnf
            (iterate 3 ((all_goals try (conv => whnf)); (repeat' first | exact ⟨⟩ | refine And.intro ?_ ?_ | rfl | exact fun _ h => h | exact .inl rfl | exact none_some | exact .inr in4 | fail)))
          intro x; conv => whnf
          refine ⟨(), _, rfl, Sub.of_check [((0,0,0), .old true (0,0,0))] ?_ (by repeat' first | exact Gen0.emp | exact Gen0.ofH rfl | refine Gen0.put ?_ (by decide) | refine Gen0.put0 ?_ ⟨_, rfl⟩)⟩
          conv => whnf
          (iterate 3 ((all_goals try (conv => whnf)); (repeat' first | exact ⟨⟩ | refine And.intro ?_ ?_ | rfl | exact fun _ h => h | exact .inl rfl | exact none_some | exact .inr in4 | fail)))
        · skip
          refine call_mm [((0,0,0), .old true (0,0,0))] 1 12 (h1) ?_ ?_ ?_
          · conv => whnf
            (iterate 3 ((all_goals try (conv => whnf)); (repeat' first | exact ⟨⟩ | refine And.intro ?_ ?_ | rfl | exact fun _ h => h | exact .inl rfl | exact none_some | exact .inr in4 | fail)))
            all_goals first | exact leK_refl _ (idf_sc _) | exact leK_refl _ (idf_av over) | exact leK_refl _ (idf_av body) | exact leK_refl _ (idf_av f)
          · intro _; conv => whnf
            (iterate 3 ((all_goals try (conv => whnf)); (repeat' first | exact ⟨⟩ | refine And.intro ?_ ?_ | rfl | exact fun _ h => h | exact .inl rfl | exact none_some | exact .inr in4 | fail)))
          intro x; conv => whnf
          refine ⟨(), _, rfl, Sub.of_check [((0,0,0), .old true (0,0,0))] ?_ (by repeat' first | exact Gen0.emp | exact Gen0.ofH rfl | refine Gen0.put ?_ (by decide) | refine Gen0.put0 ?_ ⟨_, rfl⟩)⟩
          conv => whnf
          (iterate 3 ((all_goals try (conv => whnf)); (repeat' first | exact ⟨⟩ | refine And.intro ?_ ?_ | rfl | exact fun _ h => h | exact .inl rfl | exact none_some | exact .inr in4 | fail)))
end Go.Eng
namespace Go.Eng
open Go.Proofs
set_option maxRecDepth 10000
def outOf : Rs GV → Out
  | .ok g _ => .ret (.agg g.cells)
  | .fail e _ => .pan (stopAV e)
  | .unk => .ret .top
def kOf : Rs GV → Int
  | .ok _ k => k
  | .fail _ k => k
  | .unk => 0
theorem RsSpec.of {f : FuncId} {args : List AV} {doc : GV} {k : Int} {r : Rs GV} (h : r ≠ .unk → MSpec cxA f args [((0,0,0), runRow doc k)] (fun _ : Unit => outOf r) (fun _ => [((0,0,0), runRow doc (kOf r))])) : RsSpec f args doc k r := by
  cases r with
  | unk => trivial
  | ok g k' => exact h (by simp)
  | fail e k' => exact h (by simp)
def liftL (q : List GV) : Rs (List GV) → Rs GV
  | .unk => .unk
  | .ok l k => .ok (gList (q ++ l)) k
  | .fail e k => .fail e k
theorem pileP_drop {ev : Nd → GV → List (ByteArray × GV) → Int → Rs GV} {doc : GV} {s : List (ByteArray × GV)} {l : List Nd} {i n : Nat} {room k : Int} (h : i < l.length) : pileP ev doc s (l.drop i) n room k = (match stepF ev (l.getD i default) doc s k with
    | .unk => .unk
    | .fail e k => .fail e k
    | .ok g k => match decide (pileM n (fullM g) room < 0) with
      | true => .fail 3 k
      | false => match pileP ev doc s (l.drop (i + 1)) (n + 1) (pileM n (fullM g) room) k with
        | .unk => .unk
        | .fail e k => .fail e k
        | .ok r k => .ok (fullM g :: r) k) := by
  have e : l.getD i default = l[i] := by simp [h]
  rw [List.drop_eq_getElem_cons h, e, pileP]; rfl
theorem liftL_cons (q : List GV) (g : GV) (r : Rs (List GV)) : liftL q (match r with | .unk => .unk | .fail e k => .fail e k | .ok r k => .ok (g :: r) k) = liftL (q ++ [g]) r := by
  cases r <;> simp [liftL]
theorem pileP_bd {ev : Nd → GV → List (ByteArray × GV) → Int → Rs GV} (hev : EvOk ev) {doc : GV} {s : List (ByteArray × GV)} : ∀ (l : List Nd) (n : Nat) (room k : Int), StepOk k → RsBd k (pileP ev doc s l n room k)
  | [], _, _, k, hk => ⟨Int.le_refl k, hk⟩
  | x :: l, n, room, k, hk => by
    have h := (step_ok hev x doc s k hk).2
    unfold pileP
    generalize stepF ev x doc s k = rs at *
    cases rs with
    | unk => trivial
    | fail e k' => exact h
    | ok g k' =>
      have hkk : k ≤ k' := by have := h.1; omega
      simp only
      cases decide (pileM n (fullM g) room < 0) with
      | true => exact h.2
      | false =>
        have ih := (pileP_bd hev (doc := doc) (s := s) l (n + 1) (pileM n (fullM g) room) k' h.2).mono hkk
        simp only
        generalize pileP ev doc s l (n + 1) (pileM n (fullM g) room) k' = r at *
        cases r <;> exact ih
theorem pileM_le (n : Nat) (g : GV) (room : Int) : pileM n g room ≤ room - 2 := by
  have := sizeM_lo g
  unfold pileM; omega
theorem lst_ok {ev : Nd → GV → List (ByteArray × GV) → Int → Rs GV} (hev : EvOk ev) (l : List Nd) (doc : GV) (s : List (ByteArray × GV)) (k : Int) (hk : StepOk k) :
    RsSpec 381 [.lz (.gn l), .ptr (0,0,0) 0 0, scAV s] doc k (liftL [] (pileP ev doc s l 0 65531 k)) := by
  generalize hr : liftL [] (pileP ev doc s l 0 65531 k) = r
  refine RsSpec.of fun hu => ?_
  refine MSpec.of_WC cxA_ok Tryz.func381 rfl Tryz.call381 (Nat.le_of_ble_eq_true rfl) (g := 1) ?_
  conv => whnf
  repeat' ((first | refine RegP.enter ?_ | refine DrawP.range (by kernel_rfl) ?_ | refine BuildP.frz ⟨rfl, ?_⟩ | refine BoxP.row ?_ | refine And.intro (Nat.succ_pos _) ?_ | fail); conv => whnf)
  refine call_mm [] 1 10 (newPile_ok) ?_ ?_ ?_
  · conv => whnf
    (iterate 3 ((all_goals try (conv => whnf)); (repeat' first | exact ⟨⟩ | refine And.intro ?_ ?_ | rfl | exact fun _ h => h | exact .inl rfl | exact none_some | exact .inr in4 | fail)))
  · intro _; conv => whnf
    (iterate 3 ((all_goals try (conv => whnf)); (repeat' first | exact ⟨⟩ | refine And.intro ?_ ?_ | rfl | exact fun _ h => h | exact .inl rfl | exact none_some | exact .inr in4 | fail)))
  intro x; conv => whnf
  repeat' ((first | refine RegP.enter ?_ | refine DrawP.range (by kernel_rfl) ?_ | refine BuildP.frz ⟨rfl, ?_⟩ | refine BoxP.row ?_ | refine And.intro (Nat.succ_pos _) ?_ | fail); conv => whnf)
  refine ⟨2, {q : List GV × Int × Int // q.1.length ≤ l.length ∧ 0 ≤ q.2.1 ∧ q.2.1 + 2 * q.1.length ≤ 65531 ∧ StepOk q.2.2 ∧ liftL q.1 (pileP ev doc s (l.drop q.1.length) q.1.length q.2.1 q.2.2) = r}, fun i => ([(1, .ptr (0,0,0) 0 0), (2, scAV s), (6, .ptr (1,6,0) 0 0), (7, .ptr (1,10,1) 0 0), (11, .lz (.gn l)), (12, .int l.length), (13, .int i.1.1.length)], [((0,0,0), runRow doc i.1.2.2), ((1,6,0), .cells 5 80 [[.int 0, .int 0, .str ⟨#[]⟩, .nil, .nil]]), ((1,10,1), pileRow i.1.1.length (2,0,0) i.1.2.1), ((2,0,0), .cells 5 80 (i.1.1.map GV.cells))]), fun i => l.length - i.1.1.length, ⟨⟨([], 65531, k), Nat.zero_le _, (show (0 : Int) ≤ 65531 by decide), (show (65531 : Int) + 2 * ((0 : Nat) : Int) ≤ 65531 by decide), hk, hr⟩, Sub.of_check [((0,0,0), .old true (0,0,0)), ((1,6,0), .old true (1,6,0)), ((1,10,1), .old true (1,10,1)), ((2,0,0), .old false (1,10,2))] ?_ (by repeat' first | exact Gen0.emp | exact Gen0.ofH rfl | refine Gen0.put ?_ (by decide) | refine Gen0.put0 ?_ ⟨_, rfl⟩)⟩, fun ⟨⟨q, room, kk⟩, hq, h0, h1, hkk, hia⟩ => ?_⟩
  · conv => whnf
    (iterate 3 ((all_goals try (conv => whnf)); (repeat' first | exact ⟨⟩ | refine And.intro ?_ ?_ | rfl | exact fun _ h => h | exact .inl rfl | exact none_some | exact .inr in4 | fail)))
    all_goals first | exact leK_refl _ (idf_sc _) | exact idfL_map idfL_cells _
  conv => whnf
  refine RegP.go fun hf => ?_
  conv => whnf
  refine br (fun hl => ?_) (fun hl => ?_)
  · have hlt : q.length < l.length := by simpa using hl
    have hRl := hf.lz 11 _ _ _ _ _ _ rfl rfl
    try rw [hl]
    conv => whnf
    repeat' ((first | refine RegP.enter ?_ | refine DrawP.range (by kernel_rfl) ?_ | refine BuildP.frz ⟨rfl, ?_⟩ | refine BoxP.row ?_ | refine And.intro (Nat.succ_pos _) ?_ | fail); conv => whnf)
    refine And.intro (hlt) ?_
    conv => whnf
    refine And.intro (hlt) ?_
    conv => whnf
    repeat' ((first | refine RegP.enter ?_ | refine DrawP.range (by kernel_rfl) ?_ | refine BuildP.frz ⟨rfl, ?_⟩ | refine BoxP.row ?_ | refine And.intro (Nat.succ_pos _) ?_ | fail); conv => whnf)
    rw [pileP_drop hlt] at hia
    obtain ⟨hs, hb⟩ := step_ok hev (l.getD q.length default) doc s kk hkk
    replace hia : liftL q (match stepF ev (l.getD q.length default) doc s kk with | .unk => .unk | .fail e k => .fail e k | .ok g k => match decide (pileM q.length (fullM g) room < 0) with | true => .fail 3 k | false => match pileP ev doc s (l.drop (q.length + 1)) (q.length + 1) (pileM q.length (fullM g) room) k with | .unk => .unk | .fail e k => .fail e k | .ok r k => .ok (fullM g :: r) k) = r := hia
    generalize stepF ev (l.getD q.length default) doc s kk = rs at *
    replace h0 : 0 ≤ room := h0
    replace h1 : room + 2 * q.length ≤ 65531 := h1
    cases rs with
    | unk => exact absurd hia.symm hu
    | fail e k' =>
      replace hia : .fail e k' = r := hia
      subst hia
      refine call_mm [((0,0,0), .old true (0,0,0))] 2 21 (hs) ?_ ?_ ?_
      · conv => whnf
        (iterate 3 ((all_goals try (conv => whnf)); (repeat' first | exact ⟨⟩ | refine And.intro ?_ ?_ | rfl | exact fun _ h => h | exact .inl rfl | exact none_some | exact .inr in4 | fail)))
        all_goals first | exact leK_refl _ (idf_sc _) | exact leK_refl _ (idf_av _)
      · intro _; conv => whnf
        (iterate 3 ((all_goals try (conv => whnf)); (repeat' first | exact ⟨⟩ | refine And.intro ?_ ?_ | rfl | exact fun _ h => h | exact .inl rfl | exact none_some | exact .inr in4 | fail)))
      intro x; conv => whnf
      refine ⟨(), _, rfl, Sub.of_check [((0,0,0), .old true (0,0,0))] ?_ (by repeat' first | exact Gen0.emp | exact Gen0.ofH rfl | refine Gen0.put ?_ (by decide) | refine Gen0.put0 ?_ ⟨_, rfl⟩)⟩
      conv => whnf
      (iterate 3 ((all_goals try (conv => whnf)); (repeat' first | exact ⟨⟩ | refine And.intro ?_ ?_ | rfl | exact fun _ h => h | exact .inl rfl | exact none_some | exact .inr in4 | fail)))
    | ok g k' =>
      have h2 := pileM_le q.length (fullM g) room
      refine call_mm [((0,0,0), .old true (0,0,0))] 2 21 (hs) ?_ ?_ ?_
      · conv => whnf
        (iterate 3 ((all_goals try (conv => whnf)); (repeat' first | exact ⟨⟩ | refine And.intro ?_ ?_ | rfl | exact fun _ h => h | exact .inl rfl | exact none_some | exact .inr in4 | fail)))
        all_goals first | exact leK_refl _ (idf_sc _) | exact leK_refl _ (idf_av _)
      · intro _; conv => whnf
        (iterate 3 ((all_goals try (conv => whnf)); (repeat' first | exact ⟨⟩ | refine And.intro ?_ ?_ | rfl | exact fun _ h => h | exact .inl rfl | exact none_some | exact .inr in4 | fail)))
      intro x; conv => whnf
      repeat' ((first | refine RegP.enter ?_ | refine DrawP.range (by kernel_rfl) ?_ | refine BuildP.frz ⟨rfl, ?_⟩ | refine BoxP.row ?_ | refine And.intro (Nat.succ_pos _) ?_ | fail); conv => whnf)
      refine call_same (full_ok g) rfl ?_
      conv => whnf
      repeat' ((first | refine RegP.enter ?_ | refine DrawP.range (by kernel_rfl) ?_ | refine BuildP.frz ⟨rfl, ?_⟩ | refine BoxP.row ?_ | refine And.intro (Nat.succ_pos _) ?_ | fail); conv => whnf)
      cases hd : decide (pileM q.length (fullM g) room < 0)
      · have hd' : 0 ≤ pileM q.length (fullM g) room := by simpa using hd
        simp only [hd] at hia
        rw [liftL_cons] at hia
        refine call_mm [((0,0,0), .old true (1,10,1)), ((0,1,0), .old false (2,0,0))] 2 23 (add_yes q (fullM g) room h0 (by omega) (by omega) hd') ?_ ?_ ?_
        · conv => whnf
          (iterate 3 ((all_goals try (conv => whnf)); (repeat' first | exact ⟨⟩ | refine And.intro ?_ ?_ | rfl | exact fun _ h => h | exact .inl rfl | exact none_some | exact .inr in4 | fail)))
          all_goals first | exact idfL_map idfL_cells _ | trace_state
        · intro _; conv => whnf
          (iterate 3 ((all_goals try (conv => whnf)); (repeat' first | exact ⟨⟩ | refine And.intro ?_ ?_ | rfl | exact fun _ h => h | exact .inl rfl | exact none_some | exact .inr in4 | fail)))
        intro x; conv => whnf
        repeat' ((first | refine RegP.enter ?_ | refine DrawP.range (by kernel_rfl) ?_ | refine BuildP.frz ⟨rfl, ?_⟩ | refine BoxP.row ?_ | refine And.intro (Nat.succ_pos _) ?_ | fail); conv => whnf)
        refine ⟨⟨(q ++ [fullM g], pileM q.length (fullM g) room, k'), by simp; omega, hd', by simp; omega, hb.2, by simpa using hia⟩, (by simp; omega), Sub.of_check [((0,0,0), .old true (0,0,0)), ((1,6,0), .old true (1,6,0)), ((1,10,1), .old true (1,10,1)), ((2,0,0), .old false (2,23,2))] ?_ (by repeat' first | exact Gen0.emp | exact Gen0.ofH rfl | refine Gen0.put ?_ (by decide) | refine Gen0.put0 ?_ ⟨_, rfl⟩)⟩
        conv => whnf
        (iterate 3 ((all_goals try (conv => whnf)); (repeat' first | exact ⟨⟩ | refine And.intro ?_ ?_ | rfl | exact fun _ h => h | exact .inl rfl | exact none_some | exact .inr in4 | fail)))
        all_goals first | exact leK_refl _ (idf_sc _) | (show IntKind.i64.wrap ((q.length : Int) + 1) = (((q ++ [fullM g]).length : Nat) : Int); rw [List.length_append]; exact wrap_succ hlt (le_of_mul (k := 15) hRl)) | exact renLL_map idfL_cells _ _ | exact idfL_map idfL_cells _ | (show q.length + 1 = (q ++ [fullM g]).length; simp; done) | trace_state
      · have hd' : pileM q.length (fullM g) room < 0 := by simpa using hd
        simp only [hd] at hia
        replace hia : .fail 3 k' = r := hia
        subst hia
        refine call_mm [((0,0,0), .old true (1,10,1)), ((0,1,0), .old false (2,0,0))] 2 23 (add_no q (fullM g) room h0 (by omega) (by omega) hd') ?_ ?_ ?_
        · conv => whnf
          (iterate 3 ((all_goals try (conv => whnf)); (repeat' first | exact ⟨⟩ | refine And.intro ?_ ?_ | rfl | exact fun _ h => h | exact .inl rfl | exact none_some | exact .inr in4 | fail)))
          all_goals first | exact idfL_map idfL_cells _ | trace_state
        · intro _; conv => whnf
          (iterate 3 ((all_goals try (conv => whnf)); (repeat' first | exact ⟨⟩ | refine And.intro ?_ ?_ | rfl | exact fun _ h => h | exact .inl rfl | exact none_some | exact .inr in4 | fail)))
        intro x; conv => whnf
        refine ⟨(), _, rfl, Sub.of_check [((0,0,0), .old true (0,0,0))] ?_ (by repeat' first | exact Gen0.emp | exact Gen0.ofH rfl | refine Gen0.put ?_ (by decide) | refine Gen0.put0 ?_ ⟨_, rfl⟩)⟩
        conv => whnf
        (iterate 3 ((all_goals try (conv => whnf)); (repeat' first | exact ⟨⟩ | refine And.intro ?_ ?_ | rfl | exact fun _ h => h | exact .inl rfl | exact none_some | exact .inr in4 | fail)))
  have hge : q.length = l.length := by
    have : ¬ q.length < l.length := by simpa using hl
    have : q.length ≤ l.length := hq
    omega
  have hia : .ok (gList q) kk = r := by
    rw [← hia]
    show _ = liftL q (pileP ev doc s (l.drop q.length) q.length room kk)
    rw [hge, List.drop_length]
    simp [pileP, liftL]
  subst hia
  try rw [hl]
  conv => whnf
  repeat' ((first | refine RegP.enter ?_ | refine DrawP.range (by kernel_rfl) ?_ | refine BuildP.frz ⟨rfl, ?_⟩ | refine BoxP.row ?_ | refine And.intro (Nat.succ_pos _) ?_ | fail); conv => whnf)
  refine ⟨(), _, rfl, Sub.of_check [((0,0,0), .old true (0,0,0))] ?_ (by repeat' first | exact Gen0.emp | exact Gen0.ofH rfl | refine Gen0.put ?_ (by decide) | refine Gen0.put0 ?_ ⟨_, rfl⟩)⟩
  conv => whnf
  (iterate 3 ((all_goals try (conv => whnf)); (repeat' first | exact ⟨⟩ | refine And.intro ?_ ?_ | rfl | exact fun _ h => h | exact .inl rfl | exact none_some | exact .inr in4 | fail)))
  all_goals first | exact len_map _ _ | exact frz_all idfL_cells _ | trace_state
end Go.Eng
namespace Go.Eng
open Go.Proofs
set_option maxRecDepth 10000
theorem truth_ok (g : GV) : PSpec cxA 389 [.agg g.cells] (.ret (.bool (truthM g))) := by
  generalize hr : truthM g = r
  refine PSpec.of_WC cxA_ok Tryz.func389 rfl Tryz.call389 (Nat.le_of_ble_eq_true rfl) (g := 1) ?_
  conv => whnf
  refine RegP.enter ?_
  conv => whnf
  refine BoxP.frz ⟨rfl, ?_⟩
  conv => whnf
  repeat' first | (refine RegP.enter ?_; conv => whnf) | (refine DrawP.range (by kernel_rfl) ?_; conv => whnf) | (refine BuildP.frz ⟨rfl, ?_⟩; conv => whnf) | (refine BoxP.row ?_; conv => whnf) | (refine And.intro Nat.zero_lt_one ?_; conv => whnf) | (refine And.intro (Nat.succ_pos _) ?_; conv => whnf) | (refine br (fun hb => ?_) (fun hb => ?_) <;> (try rw [hb]) <;> (conv => whnf)) | fail
  all_goals (simp only [truthM, nothingM] at hr)
  all_goals (first | (have e0 : g.kind = 0 := by simp_all) | (have e0 : ¬ g.kind = 0 := by simp_all))
  all_goals (simp_all; try subst hr)
  all_goals (refine Ent.of_check ?_ rfl)
  all_goals (conv => whnf)
  (iterate 3 ((all_goals try (conv => whnf)); (repeat' first | exact ⟨⟩ | refine And.intro ?_ ?_ | rfl | exact fun _ h => h | exact .inl rfl | exact none_some | exact .inr in4 | fail)))
  all_goals (cases r <;> simp_all)
theorem gbool_ok (b : Bool) : PSpec cxA 390 [.bool b] (.ret (.agg (gBool b).cells)) := by
  refine PSpec.of_WC cxA_ok Tryz.func390 rfl Tryz.call390 (Nat.le_of_ble_eq_true rfl) (g := 1) ?_
  conv => whnf
  cases b
  · repeat' ((first | refine RegP.enter ?_ | refine DrawP.range (by kernel_rfl) ?_ | refine BuildP.frz ⟨rfl, ?_⟩ | refine BoxP.row ?_ | refine And.intro (Nat.succ_pos _) ?_ | fail); conv => whnf)
    refine Ent.of_check ?_ rfl
    conv => whnf
    (iterate 3 ((all_goals try (conv => whnf)); (repeat' first | exact ⟨⟩ | refine And.intro ?_ ?_ | rfl | exact fun _ h => h | exact .inl rfl | exact none_some | exact .inr in4 | fail)))
  · repeat' ((first | refine RegP.enter ?_ | refine DrawP.range (by kernel_rfl) ?_ | refine BuildP.frz ⟨rfl, ?_⟩ | refine BoxP.row ?_ | refine And.intro (Nat.succ_pos _) ?_ | fail); conv => whnf)
    refine Ent.of_check ?_ rfl
    conv => whnf
    (iterate 3 ((all_goals try (conv => whnf)); (repeat' first | exact ⟨⟩ | refine And.intro ?_ ?_ | rfl | exact fun _ h => h | exact .inl rfl | exact none_some | exact .inr in4 | fail)))
theorem within_no (g : GV) (h : 65536 < g.sz) : MSpec cxA 391 [.agg g.cells] [] (fun _ : Unit => .pan (stopAV 3)) (fun _ => []) := by
  have hs : sizeM g = 65537 := by unfold sizeM; rw [if_neg (by omega)]
  refine MSpec.of_WC cxA_ok Tryz.func391 rfl Tryz.call391 (Nat.le_of_ble_eq_true rfl) (g := 1) ?_
  conv => whnf
  refine RegP.enter ?_
  conv => whnf
  refine BoxP.frz ⟨rfl, ?_⟩
  conv => whnf
  repeat' ((first | refine RegP.enter ?_ | refine DrawP.range (by kernel_rfl) ?_ | refine BuildP.frz ⟨rfl, ?_⟩ | refine BoxP.row ?_ | refine And.intro (Nat.succ_pos _) ?_ | refine call_same (size_ok g) rfl ?_ | fail); conv => whnf)
  rw [hs]
  conv => whnf
  repeat' ((first | refine RegP.enter ?_ | refine DrawP.range (by kernel_rfl) ?_ | refine BuildP.frz ⟨rfl, ?_⟩ | refine BoxP.row ?_ | refine And.intro (Nat.succ_pos _) ?_ | fail); conv => whnf)
  refine call_mm [] 1 6 (fail_ok 3) ?_ ?_ ?_
  · conv => whnf
    (iterate 3 ((all_goals try (conv => whnf)); (repeat' first | exact ⟨⟩ | refine And.intro ?_ ?_ | rfl | exact fun _ h => h | exact .inl rfl | exact none_some | exact .inr in4 | fail)))
  · intro _; conv => whnf
    (iterate 3 ((all_goals try (conv => whnf)); (repeat' first | exact ⟨⟩ | refine And.intro ?_ ?_ | rfl | exact fun _ h => h | exact .inl rfl | exact none_some | exact .inr in4 | fail)))
  intro x; conv => whnf
  refine ⟨(), _, rfl, Sub.of_check [] ?_ (by repeat' first | exact Gen0.emp | exact Gen0.ofH rfl | refine Gen0.put ?_ (by decide) | refine Gen0.put0 ?_ ⟨_, rfl⟩)⟩
  conv => whnf
  (iterate 3 ((all_goals try (conv => whnf)); (repeat' first | exact ⟨⟩ | refine And.intro ?_ ?_ | rfl | exact fun _ h => h | exact .inl rfl | exact none_some | exact .inr in4 | fail)))
theorem within_yes (g : GV) (h : ¬ 65536 < g.sz) : MSpec cxA 391 [.agg g.cells] [] (fun _ : Unit => .ret (.agg g.cells)) (fun _ => []) := by
  have hs : decide (sizeM g > 65536) = false := by unfold sizeM; rw [if_pos (by omega)]; exact decide_eq_false (by omega)
  refine MSpec.of_WC cxA_ok Tryz.func391 rfl Tryz.call391 (Nat.le_of_ble_eq_true rfl) (g := 1) ?_
  conv => whnf
  refine RegP.enter ?_
  conv => whnf
  refine BoxP.frz ⟨rfl, ?_⟩
  conv => whnf
  repeat' ((first | refine RegP.enter ?_ | refine DrawP.range (by kernel_rfl) ?_ | refine BuildP.frz ⟨rfl, ?_⟩ | refine BoxP.row ?_ | refine And.intro (Nat.succ_pos _) ?_ | refine call_same (size_ok g) rfl ?_ | fail); conv => whnf)
  rw [hs]
  conv => whnf
  repeat' ((first | refine RegP.enter ?_ | refine DrawP.range (by kernel_rfl) ?_ | refine BuildP.frz ⟨rfl, ?_⟩ | refine BoxP.row ?_ | refine And.intro (Nat.succ_pos _) ?_ | fail); conv => whnf)
  refine ⟨(), _, rfl, Sub.of_check [] ?_ (by repeat' first | exact Gen0.emp | exact Gen0.ofH rfl | refine Gen0.put ?_ (by decide) | refine Gen0.put0 ?_ ⟨_, rfl⟩)⟩
  conv => whnf
  (iterate 3 ((all_goals try (conv => whnf)); (repeat' first | exact ⟨⟩ | refine And.intro ?_ ?_ | rfl | exact fun _ h => h | exact .inl rfl | exact none_some | exact .inr in4 | fail)))
theorem nothing_ok (g : GV) : PSpec cxA 392 [.agg g.cells] (.ret (.bool (nothingM g))) := by
  generalize hr : nothingM g = r
  refine PSpec.of_WC cxA_ok Tryz.func392 rfl Tryz.call392 (Nat.le_of_ble_eq_true rfl) (g := 1) ?_
  conv => whnf
  refine RegP.enter ?_
  conv => whnf
  refine BoxP.frz ⟨rfl, ?_⟩
  conv => whnf
  repeat' ((first | refine RegP.enter ?_ | refine DrawP.range (by kernel_rfl) ?_ | refine BuildP.frz ⟨rfl, ?_⟩ | refine BoxP.row ?_ | refine And.intro (Nat.succ_pos _) ?_ | fail); conv => whnf)
  unfold nothingM at hr
  cases h : (g.kind == 0)
  · have : decide (g.kind = 0) = false := by simpa using h
    rw [this] at hr
    replace hr : decide (g.kind = 2) = r := hr
    conv => whnf
    repeat' ((first | refine RegP.enter ?_ | refine DrawP.range (by kernel_rfl) ?_ | refine BuildP.frz ⟨rfl, ?_⟩ | refine BoxP.row ?_ | refine And.intro (Nat.succ_pos _) ?_ | fail); conv => whnf)
    have h2 : (g.kind == 2) = r := by rw [← hr]; rfl
    rw [h2]
    conv => whnf
    repeat' ((first | refine RegP.enter ?_ | refine DrawP.range (by kernel_rfl) ?_ | refine BuildP.frz ⟨rfl, ?_⟩ | refine BoxP.row ?_ | refine And.intro (Nat.succ_pos _) ?_ | fail); conv => whnf)
    refine Ent.of_check ?_ rfl
    conv => whnf
    (iterate 3 ((all_goals try (conv => whnf)); (repeat' first | exact ⟨⟩ | refine And.intro ?_ ?_ | rfl | exact fun _ h => h | exact .inl rfl | exact none_some | exact .inr in4 | fail)))
  · have : decide (g.kind = 0) = true := by simpa using h
    rw [this] at hr
    replace hr : true = r := hr
    subst hr
    conv => whnf
    repeat' ((first | refine RegP.enter ?_ | refine DrawP.range (by kernel_rfl) ?_ | refine BuildP.frz ⟨rfl, ?_⟩ | refine BoxP.row ?_ | refine And.intro (Nat.succ_pos _) ?_ | fail); conv => whnf)
    refine Ent.of_check ?_ rfl
    conv => whnf
    (iterate 3 ((all_goals try (conv => whnf)); (repeat' first | exact ⟨⟩ | refine And.intro ?_ ?_ | rfl | exact fun _ h => h | exact .inl rfl | exact none_some | exact .inr in4 | fail)))
/-- slices.IndexFunc over values, of a function that only computes. -/
theorem indexFuncV_ok (l : List GV) (f : FuncId) (a b : List AV) (ha : idfL a = true) (hb : idfL b = true) (p : GV → Bool) (hp : ∀ s, s ∈ l → PSpec cxA f (a ++ [.agg s.cells] ++ b) (.ret (.bool (p s)))) :
    PSpec cxA 401 [.lz (.gl l), .clo (.func f) a b] (.ret (.int (idxI p l))) := by
  generalize hr : idxI p l = r
  refine PSpec.of_WC cxA_ok Tryz.func401 rfl Tryz.call401 (Nat.le_of_ble_eq_true rfl) (g := 1) ?_
  conv => whnf
  repeat' ((first | refine RegP.enter ?_ | refine DrawP.range (by kernel_rfl) ?_ | refine BuildP.frz ⟨rfl, ?_⟩ | refine BoxP.row ?_ | refine And.intro (Nat.succ_pos _) ?_ | fail); conv => whnf)
  refine ⟨2, {i : Nat // i ≤ l.length ∧ ∀ j, j < i → p (l.getD j default) = false}, fun i => ([(0, .lz (.gl l)), (1, .clo (.func f) a b), (7, .int l.length), (8, .int i.1)], []), fun i => l.length - i.1, ⟨⟨0, Nat.zero_le _, fun _ h => absurd h (Nat.not_lt_zero _)⟩, Sub.of_check [] ?_ (by repeat' first | exact Gen0.emp | exact Gen0.ofH rfl | refine Gen0.put ?_ (by decide) | refine Gen0.put0 ?_ ⟨_, rfl⟩)⟩, fun ⟨i, hi, hia⟩ => ?_⟩
  · conv => whnf
    (iterate 3 ((all_goals try (conv => whnf)); (repeat' first | exact ⟨⟩ | refine And.intro ?_ ?_ | rfl | exact fun _ h => h | exact .inl rfl | exact none_some | exact .inr in4 | fail)))
    all_goals first | exact leL_refl _ ha | exact leL_refl _ hb
  conv => whnf
  refine RegP.go fun hf => ?_
  conv => whnf
  refine br (fun hl => ?_) (fun hl => ?_)
  rotate_left
  · have hge : i = l.length := by
      have : ¬ i < l.length := by simpa using hl
      omega
    try rw [hl]
    conv => whnf
    repeat' ((first | refine RegP.enter ?_ | refine DrawP.range (by kernel_rfl) ?_ | refine BuildP.frz ⟨rfl, ?_⟩ | refine BoxP.row ?_ | refine And.intro (Nat.succ_pos _) ?_ | fail); conv => whnf)
    refine Ent.of_check ?_ rfl
    conv => whnf
    (iterate 3 ((all_goals try (conv => whnf)); (repeat' first | exact ⟨⟩ | refine And.intro ?_ ?_ | rfl | exact fun _ h => h | exact .inl rfl | exact none_some | exact .inr in4 | fail)))
    rw [← hr, idxI_none (by rw [← hge]; exact hia)]
  have hlt : i < l.length := by simpa using hl
  have hR := le_of_mul (k := 79) (hf.lz 0 _ _ _ _ _ _ rfl rfl)
  have hmem : l.getD i default ∈ l := by simp [hlt]
  try rw [hl]
  conv => whnf
  repeat' ((first | refine RegP.enter ?_ | refine DrawP.range (by kernel_rfl) ?_ | refine BuildP.frz ⟨rfl, ?_⟩ | refine BoxP.row ?_ | refine And.intro (Nat.succ_pos _) ?_ | fail); conv => whnf)
  refine And.intro (hlt) ?_
  conv => whnf
  refine And.intro (hlt) ?_
  conv => whnf
  refine call_same (hp _ hmem) (by rw [idfL_app, idfL_app, ha, hb]; rfl) ?_
  conv => whnf
  refine br (fun hx => ?_) (fun hx => ?_)
  · try rw [hx]
    conv => whnf
    repeat' ((first | refine RegP.enter ?_ | refine DrawP.range (by kernel_rfl) ?_ | refine BuildP.frz ⟨rfl, ?_⟩ | refine BoxP.row ?_ | refine And.intro (Nat.succ_pos _) ?_ | fail); conv => whnf)
    refine Ent.of_check ?_ rfl
    conv => whnf
    (iterate 3 ((all_goals try (conv => whnf)); (repeat' first | exact ⟨⟩ | refine And.intro ?_ ?_ | rfl | exact fun _ h => h | exact .inl rfl | exact none_some | exact .inr in4 | fail)))
    rw [← hr, idxI_some hlt hx hia]
  · try rw [hx]
    conv => whnf
    repeat' ((first | refine RegP.enter ?_ | refine DrawP.range (by kernel_rfl) ?_ | refine BuildP.frz ⟨rfl, ?_⟩ | refine BoxP.row ?_ | refine And.intro (Nat.succ_pos _) ?_ | fail); conv => whnf)
    refine ⟨⟨i + 1, hlt, fun j hj => (Nat.lt_or_eq_of_le (Nat.le_of_lt_succ hj)).elim (hia j) (fun e => e ▸ hx)⟩, (by show l.length - (i + 1) < l.length - i; omega), Sub.of_check [] ?_ (by repeat' first | exact Gen0.emp | exact Gen0.ofH rfl | refine Gen0.put ?_ (by decide) | refine Gen0.put0 ?_ ⟨_, rfl⟩)⟩
    conv => whnf
    (iterate 3 ((all_goals try (conv => whnf)); (repeat' first | exact ⟨⟩ | refine And.intro ?_ ?_ | rfl | exact fun _ h => h | exact .inl rfl | exact none_some | exact .inr in4 | fail)))
    all_goals first | exact leL_refl _ ha | exact leL_refl _ hb | exact wrap_succ hlt hR
theorem anyNothing_ok (l : List GV) : PSpec cxA 394 [.lz (.gl l), .clo (.func 392) [] []] (.ret (.bool (l.any nothingM))) := by
  refine PSpec.of_WC cxA_ok Tryz.func394 rfl Tryz.call394 (Nat.le_of_ble_eq_true rfl) (g := 1) ?_
  conv => whnf
  repeat' ((first | refine RegP.enter ?_ | refine DrawP.range (by kernel_rfl) ?_ | refine BuildP.frz ⟨rfl, ?_⟩ | refine BoxP.row ?_ | refine And.intro (Nat.succ_pos _) ?_ | refine call_same (indexFuncV_ok l 392 [] [] rfl rfl nothingM (fun g _ => nothing_ok g)) rfl ?_ | fail); conv => whnf)
  rw [idxI_any]
  conv => whnf
  repeat' ((first | refine RegP.enter ?_ | refine DrawP.range (by kernel_rfl) ?_ | refine BuildP.frz ⟨rfl, ?_⟩ | refine BoxP.row ?_ | refine And.intro (Nat.succ_pos _) ?_ | fail); conv => whnf)
  refine Ent.of_check ?_ rfl
  conv => whnf
  (iterate 3 ((all_goals try (conv => whnf)); (repeat' first | exact ⟨⟩ | refine And.intro ?_ ?_ | rfl | exact fun _ h => h | exact .inl rfl | exact none_some | exact .inr in4 | fail)))
end Go.Eng

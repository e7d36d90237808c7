/- Part 27 of the proof of 'ExprSums': an engine for the program's code, and walks of its functions (Xi). -/
import Derived.Test.YtlcepambcoobgaaGreatDoorPart26
namespace Go.Eng
open Go.Proofs
set_option maxRecDepth 20000
set_option maxHeartbeats 40000000
theorem quo_mul {a b : Int} (ha : inInt a = true) (hb : ¬ b = 0) : inInt (a.tdiv b * b) = true ∧ IntKind.i64.wrap (a.tdiv b * b + a.tmod b) = a := by
  have h := inInt_iff.1 ha
  have e : a.tdiv b * b + a.tmod b = a := Int.tdiv_mul_add_tmod a b
  refine ⟨?_, by rw [e]; exact wrap64 (by omega) (by omega)⟩
  rw [inInt_iff]
  have h1 : (a.tdiv b * b).natAbs ≤ a.natAbs := by
    rw [Int.natAbs_mul, Int.natAbs_tdiv]
    exact Nat.div_mul_le_self _ _
  have h5 : (a.tmod b).natAbs ≤ a.natAbs := by rw [Int.natAbs_tmod]; exact Nat.mod_le _ _
  omega
theorem max_ok (a b c : Int) : ((gInt (maxI a b c)).int == if c > (if b > a then b else a) then c else if b > a then b else a) = true := by
  show (maxI a b c == if c > (if b > a then b else a) then c else if b > a then b else a) = true
  rw [beq_iff_eq]
  unfold maxI
  simp only [Int.max_def]
  repeat' split <;> omega
theorem sums_ok (a b c : Int) (ha : inInt a = true) (hb : inInt b = true) (hc : inInt c = true) : PSpec cxA 6 [.int a, .int b, .int c] (.ret (.bool true)) := by
  have hA := whole_Add ha hb
  have hA2 := whole_Add hb ha
  rw [Int.add_comm b a] at hA2
  have hS := whole_Subtract ha hb
  have hM := whole_Multiply ha hc
  have hM2 := whole_Multiply hc ha
  rw [Int.mul_comm c a] at hM2
  have hX := work_Max a b c gZero
  refine PSpec.of_WC cxA_ok Tryz.func6 rfl Tryz.call6 (Nat.le_of_ble_eq_true rfl) (g := 1) ?_
  conv => whnf
  cases oA : inInt (a + b)
  · rw [oA] at hA hA2
    repeat' first | (refine RegP.enter ?_; conv => whnf) | (refine DrawP.range (by kernel_rfl) ?_; conv => whnf) | (refine BuildP.frz ⟨rfl, ?_⟩; conv => whnf) | (refine BoxP.row ?_; conv => whnf) | (refine And.intro Nat.zero_lt_one ?_; conv => whnf) | (refine And.intro (Nat.succ_pos _) ?_; conv => whnf) | (refine call_same (awake_ok) rfl ?_; conv => whnf) | (refine call_same (hA) rfl ?_; conv => whnf) | (refine call_same (hA2) rfl ?_; conv => whnf) | fail
    cases oS : inInt (a - b)
    · rw [oS] at hS
      repeat' first | (refine RegP.enter ?_; conv => whnf) | (refine DrawP.range (by kernel_rfl) ?_; conv => whnf) | (refine BuildP.frz ⟨rfl, ?_⟩; conv => whnf) | (refine BoxP.row ?_; conv => whnf) | (refine And.intro Nat.zero_lt_one ?_; conv => whnf) | (refine And.intro (Nat.succ_pos _) ?_; conv => whnf) | (refine call_same (hS) rfl ?_; conv => whnf) | fail
      by_cases b0 : b = 0
      · have hD := whole_Divide0 ha hb b0
        have hR := whole_Mod0 ha hb b0
        have e0 : (b != 0) = false := by rw [b0]; rfl
        repeat' first | (refine RegP.enter ?_; conv => whnf) | (refine DrawP.range (by kernel_rfl) ?_; conv => whnf) | (refine BuildP.frz ⟨rfl, ?_⟩; conv => whnf) | (refine BoxP.row ?_; conv => whnf) | (refine And.intro Nat.zero_lt_one ?_; conv => whnf) | (refine And.intro (Nat.succ_pos _) ?_; conv => whnf) | (refine call_same (hD) rfl ?_; conv => whnf) | (refine call_same (hR) rfl ?_; conv => whnf) | (rw [bne_self_eq_false]; conv => whnf) | (rw [e0]; conv => whnf) | fail
        cases oM : inInt (a * c)
        · rw [oM] at hM hM2
          repeat' first | (refine RegP.enter ?_; conv => whnf) | (refine DrawP.range (by kernel_rfl) ?_; conv => whnf) | (refine BuildP.frz ⟨rfl, ?_⟩; conv => whnf) | (refine BoxP.row ?_; conv => whnf) | (refine And.intro Nat.zero_lt_one ?_; conv => whnf) | (refine And.intro (Nat.succ_pos _) ?_; conv => whnf) | (refine call_same (hM) rfl ?_; conv => whnf) | (refine call_same (hM2) rfl ?_; conv => whnf) | (refine call_same (int_ok a) rfl ?_; conv => whnf) | (refine call_same (int_ok b) rfl ?_; conv => whnf) | (refine call_same (int_ok c) rfl ?_; conv => whnf) | (rw [bne_self_eq_false]; conv => whnf) | (rw [beq_self_eq_true]; conv => whnf) | fail
          refine call_le (call_ok oMax [gInt a, gInt b, gInt c]) ?_ (by rfl) (by rfl) ?_
          · (iterate 3 ((all_goals try (conv => whnf)); (repeat' first | exact True.intro | (refine And.intro ?_ ?_) | rfl | exact fun _ h => h | exact .inl rfl | exact none_some | exact .inr ⟨rfl, rfl, fun _ _ => rfl⟩ | exact .inr ⟨rfl, rfl, lt1 rfl⟩ | exact .inr ⟨rfl, rfl, lt2 rfl rfl⟩ | exact .inr ⟨rfl, rfl, lt3 rfl rfl rfl⟩ | fail)))
            all_goals trace_state
          conv => whnf
          repeat' first | (refine RegP.enter ?_; conv => whnf) | (refine DrawP.range (by kernel_rfl) ?_; conv => whnf) | (refine BuildP.frz ⟨rfl, ?_⟩; conv => whnf) | (refine BoxP.row ?_; conv => whnf) | (refine And.intro Nat.zero_lt_one ?_; conv => whnf) | (refine And.intro (Nat.succ_pos _) ?_; conv => whnf) | fail
          refine call_le (hX) ?_ (by rfl) (by rfl) ?_
          · (iterate 3 ((all_goals try (conv => whnf)); (repeat' first | exact True.intro | (refine And.intro ?_ ?_) | rfl | exact fun _ h => h | exact .inl rfl | exact none_some | exact .inr ⟨rfl, rfl, fun _ _ => rfl⟩ | exact .inr ⟨rfl, rfl, lt1 rfl⟩ | exact .inr ⟨rfl, rfl, lt2 rfl rfl⟩ | exact .inr ⟨rfl, rfl, lt3 rfl rfl rfl⟩ | fail)))
            all_goals trace_state
          conv => whnf
          repeat' first | (refine RegP.enter ?_; conv => whnf) | (refine DrawP.range (by kernel_rfl) ?_; conv => whnf) | (refine BuildP.frz ⟨rfl, ?_⟩; conv => whnf) | (refine BoxP.row ?_; conv => whnf) | (refine And.intro Nat.zero_lt_one ?_; conv => whnf) | (refine And.intro (Nat.succ_pos _) ?_; conv => whnf) | (rw [bne_self_eq_false]; conv => whnf) | (rw [beq_self_eq_true]; conv => whnf) | fail
          refine Ent.of_check ?_ rfl
          conv => whnf
          (iterate 3 ((all_goals try (conv => whnf)); (repeat' first | exact True.intro | (refine And.intro ?_ ?_) | rfl | exact fun _ h => h | exact .inl rfl | exact none_some | exact .inr ⟨rfl, rfl, fun _ _ => rfl⟩ | exact .inr ⟨rfl, rfl, lt1 rfl⟩ | exact .inr ⟨rfl, rfl, lt2 rfl rfl⟩ | exact .inr ⟨rfl, rfl, lt3 rfl rfl rfl⟩ | fail)))
          exact max_ok a b c
        · rw [oM] at hM hM2
          repeat' first | (refine RegP.enter ?_; conv => whnf) | (refine DrawP.range (by kernel_rfl) ?_; conv => whnf) | (refine BuildP.frz ⟨rfl, ?_⟩; conv => whnf) | (refine BoxP.row ?_; conv => whnf) | (refine And.intro Nat.zero_lt_one ?_; conv => whnf) | (refine And.intro (Nat.succ_pos _) ?_; conv => whnf) | (refine call_same (hM) rfl ?_; conv => whnf) | (refine call_same (hM2) rfl ?_; conv => whnf) | (refine call_same (int_ok a) rfl ?_; conv => whnf) | (refine call_same (int_ok b) rfl ?_; conv => whnf) | (refine call_same (int_ok c) rfl ?_; conv => whnf) | (rw [bne_self_eq_false]; conv => whnf) | (rw [beq_self_eq_true]; conv => whnf) | fail
          refine call_le (call_ok oMax [gInt a, gInt b, gInt c]) ?_ (by rfl) (by rfl) ?_
          · (iterate 3 ((all_goals try (conv => whnf)); (repeat' first | exact True.intro | (refine And.intro ?_ ?_) | rfl | exact fun _ h => h | exact .inl rfl | exact none_some | exact .inr ⟨rfl, rfl, fun _ _ => rfl⟩ | exact .inr ⟨rfl, rfl, lt1 rfl⟩ | exact .inr ⟨rfl, rfl, lt2 rfl rfl⟩ | exact .inr ⟨rfl, rfl, lt3 rfl rfl rfl⟩ | fail)))
            all_goals trace_state
          conv => whnf
          repeat' first | (refine RegP.enter ?_; conv => whnf) | (refine DrawP.range (by kernel_rfl) ?_; conv => whnf) | (refine BuildP.frz ⟨rfl, ?_⟩; conv => whnf) | (refine BoxP.row ?_; conv => whnf) | (refine And.intro Nat.zero_lt_one ?_; conv => whnf) | (refine And.intro (Nat.succ_pos _) ?_; conv => whnf) | fail
          refine call_le (hX) ?_ (by rfl) (by rfl) ?_
          · (iterate 3 ((all_goals try (conv => whnf)); (repeat' first | exact True.intro | (refine And.intro ?_ ?_) | rfl | exact fun _ h => h | exact .inl rfl | exact none_some | exact .inr ⟨rfl, rfl, fun _ _ => rfl⟩ | exact .inr ⟨rfl, rfl, lt1 rfl⟩ | exact .inr ⟨rfl, rfl, lt2 rfl rfl⟩ | exact .inr ⟨rfl, rfl, lt3 rfl rfl rfl⟩ | fail)))
            all_goals trace_state
          conv => whnf
          repeat' first | (refine RegP.enter ?_; conv => whnf) | (refine DrawP.range (by kernel_rfl) ?_; conv => whnf) | (refine BuildP.frz ⟨rfl, ?_⟩; conv => whnf) | (refine BoxP.row ?_; conv => whnf) | (refine And.intro Nat.zero_lt_one ?_; conv => whnf) | (refine And.intro (Nat.succ_pos _) ?_; conv => whnf) | (rw [bne_self_eq_false]; conv => whnf) | (rw [beq_self_eq_true]; conv => whnf) | fail
          refine Ent.of_check ?_ rfl
          conv => whnf
          (iterate 3 ((all_goals try (conv => whnf)); (repeat' first | exact True.intro | (refine And.intro ?_ ?_) | rfl | exact fun _ h => h | exact .inl rfl | exact none_some | exact .inr ⟨rfl, rfl, fun _ _ => rfl⟩ | exact .inr ⟨rfl, rfl, lt1 rfl⟩ | exact .inr ⟨rfl, rfl, lt2 rfl rfl⟩ | exact .inr ⟨rfl, rfl, lt3 rfl rfl rfl⟩ | fail)))
          exact max_ok a b c
      have hD := whole_Divide ha hb b0
      have hR := whole_Mod ha hb b0
      obtain ⟨hq, hw⟩ := quo_mul ha b0
      cases oD : inInt (a.tdiv b)
      · have b1 : b = -1 := Decidable.byContradiction fun h => by rw [tdiv_in ha b0 h] at oD; cases oD
        rw [oD] at hD
        have e0 : (b != 0) = true := by rw [b1]; rfl
        have e1 : (b != -1) = false := by rw [b1]; rfl
        repeat' first | (refine RegP.enter ?_; conv => whnf) | (refine DrawP.range (by kernel_rfl) ?_; conv => whnf) | (refine BuildP.frz ⟨rfl, ?_⟩; conv => whnf) | (refine BoxP.row ?_; conv => whnf) | (refine And.intro Nat.zero_lt_one ?_; conv => whnf) | (refine And.intro (Nat.succ_pos _) ?_; conv => whnf) | (refine call_same (hD) rfl ?_; conv => whnf) | (refine call_same (hR) rfl ?_; conv => whnf) | (rw [bne_self_eq_false]; conv => whnf) | (rw [e0]; conv => whnf) | (rw [e1]; conv => whnf) | fail
        cases oM : inInt (a * c)
        · rw [oM] at hM hM2
          repeat' first | (refine RegP.enter ?_; conv => whnf) | (refine DrawP.range (by kernel_rfl) ?_; conv => whnf) | (refine BuildP.frz ⟨rfl, ?_⟩; conv => whnf) | (refine BoxP.row ?_; conv => whnf) | (refine And.intro Nat.zero_lt_one ?_; conv => whnf) | (refine And.intro (Nat.succ_pos _) ?_; conv => whnf) | (refine call_same (hM) rfl ?_; conv => whnf) | (refine call_same (hM2) rfl ?_; conv => whnf) | (refine call_same (int_ok a) rfl ?_; conv => whnf) | (refine call_same (int_ok b) rfl ?_; conv => whnf) | (refine call_same (int_ok c) rfl ?_; conv => whnf) | (rw [bne_self_eq_false]; conv => whnf) | (rw [beq_self_eq_true]; conv => whnf) | fail
          refine call_le (call_ok oMax [gInt a, gInt b, gInt c]) ?_ (by rfl) (by rfl) ?_
          · (iterate 3 ((all_goals try (conv => whnf)); (repeat' first | exact True.intro | (refine And.intro ?_ ?_) | rfl | exact fun _ h => h | exact .inl rfl | exact none_some | exact .inr ⟨rfl, rfl, fun _ _ => rfl⟩ | exact .inr ⟨rfl, rfl, lt1 rfl⟩ | exact .inr ⟨rfl, rfl, lt2 rfl rfl⟩ | exact .inr ⟨rfl, rfl, lt3 rfl rfl rfl⟩ | fail)))
            all_goals trace_state
          conv => whnf
          repeat' first | (refine RegP.enter ?_; conv => whnf) | (refine DrawP.range (by kernel_rfl) ?_; conv => whnf) | (refine BuildP.frz ⟨rfl, ?_⟩; conv => whnf) | (refine BoxP.row ?_; conv => whnf) | (refine And.intro Nat.zero_lt_one ?_; conv => whnf) | (refine And.intro (Nat.succ_pos _) ?_; conv => whnf) | fail
          refine call_le (hX) ?_ (by rfl) (by rfl) ?_
          · (iterate 3 ((all_goals try (conv => whnf)); (repeat' first | exact True.intro | (refine And.intro ?_ ?_) | rfl | exact fun _ h => h | exact .inl rfl | exact none_some | exact .inr ⟨rfl, rfl, fun _ _ => rfl⟩ | exact .inr ⟨rfl, rfl, lt1 rfl⟩ | exact .inr ⟨rfl, rfl, lt2 rfl rfl⟩ | exact .inr ⟨rfl, rfl, lt3 rfl rfl rfl⟩ | fail)))
            all_goals trace_state
          conv => whnf
          repeat' first | (refine RegP.enter ?_; conv => whnf) | (refine DrawP.range (by kernel_rfl) ?_; conv => whnf) | (refine BuildP.frz ⟨rfl, ?_⟩; conv => whnf) | (refine BoxP.row ?_; conv => whnf) | (refine And.intro Nat.zero_lt_one ?_; conv => whnf) | (refine And.intro (Nat.succ_pos _) ?_; conv => whnf) | (rw [bne_self_eq_false]; conv => whnf) | (rw [beq_self_eq_true]; conv => whnf) | fail
          refine Ent.of_check ?_ rfl
          conv => whnf
          (iterate 3 ((all_goals try (conv => whnf)); (repeat' first | exact True.intro | (refine And.intro ?_ ?_) | rfl | exact fun _ h => h | exact .inl rfl | exact none_some | exact .inr ⟨rfl, rfl, fun _ _ => rfl⟩ | exact .inr ⟨rfl, rfl, lt1 rfl⟩ | exact .inr ⟨rfl, rfl, lt2 rfl rfl⟩ | exact .inr ⟨rfl, rfl, lt3 rfl rfl rfl⟩ | fail)))
          exact max_ok a b c
        · rw [oM] at hM hM2
          repeat' first | (refine RegP.enter ?_; conv => whnf) | (refine DrawP.range (by kernel_rfl) ?_; conv => whnf) | (refine BuildP.frz ⟨rfl, ?_⟩; conv => whnf) | (refine BoxP.row ?_; conv => whnf) | (refine And.intro Nat.zero_lt_one ?_; conv => whnf) | (refine And.intro (Nat.succ_pos _) ?_; conv => whnf) | (refine call_same (hM) rfl ?_; conv => whnf) | (refine call_same (hM2) rfl ?_; conv => whnf) | (refine call_same (int_ok a) rfl ?_; conv => whnf) | (refine call_same (int_ok b) rfl ?_; conv => whnf) | (refine call_same (int_ok c) rfl ?_; conv => whnf) | (rw [bne_self_eq_false]; conv => whnf) | (rw [beq_self_eq_true]; conv => whnf) | fail
          refine call_le (call_ok oMax [gInt a, gInt b, gInt c]) ?_ (by rfl) (by rfl) ?_
          · (iterate 3 ((all_goals try (conv => whnf)); (repeat' first | exact True.intro | (refine And.intro ?_ ?_) | rfl | exact fun _ h => h | exact .inl rfl | exact none_some | exact .inr ⟨rfl, rfl, fun _ _ => rfl⟩ | exact .inr ⟨rfl, rfl, lt1 rfl⟩ | exact .inr ⟨rfl, rfl, lt2 rfl rfl⟩ | exact .inr ⟨rfl, rfl, lt3 rfl rfl rfl⟩ | fail)))
            all_goals trace_state
          conv => whnf
          repeat' first | (refine RegP.enter ?_; conv => whnf) | (refine DrawP.range (by kernel_rfl) ?_; conv => whnf) | (refine BuildP.frz ⟨rfl, ?_⟩; conv => whnf) | (refine BoxP.row ?_; conv => whnf) | (refine And.intro Nat.zero_lt_one ?_; conv => whnf) | (refine And.intro (Nat.succ_pos _) ?_; conv => whnf) | fail
          refine call_le (hX) ?_ (by rfl) (by rfl) ?_
          · (iterate 3 ((all_goals try (conv => whnf)); (repeat' first | exact True.intro | (refine And.intro ?_ ?_) | rfl | exact fun _ h => h | exact .inl rfl | exact none_some | exact .inr ⟨rfl, rfl, fun _ _ => rfl⟩ | exact .inr ⟨rfl, rfl, lt1 rfl⟩ | exact .inr ⟨rfl, rfl, lt2 rfl rfl⟩ | exact .inr ⟨rfl, rfl, lt3 rfl rfl rfl⟩ | fail)))
            all_goals trace_state
          conv => whnf
          repeat' first | (refine RegP.enter ?_; conv => whnf) | (refine DrawP.range (by kernel_rfl) ?_; conv => whnf) | (refine BuildP.frz ⟨rfl, ?_⟩; conv => whnf) | (refine BoxP.row ?_; conv => whnf) | (refine And.intro Nat.zero_lt_one ?_; conv => whnf) | (refine And.intro (Nat.succ_pos _) ?_; conv => whnf) | (rw [bne_self_eq_false]; conv => whnf) | (rw [beq_self_eq_true]; conv => whnf) | fail
          refine Ent.of_check ?_ rfl
          conv => whnf
          (iterate 3 ((all_goals try (conv => whnf)); (repeat' first | exact True.intro | (refine And.intro ?_ ?_) | rfl | exact fun _ h => h | exact .inl rfl | exact none_some | exact .inr ⟨rfl, rfl, fun _ _ => rfl⟩ | exact .inr ⟨rfl, rfl, lt1 rfl⟩ | exact .inr ⟨rfl, rfl, lt2 rfl rfl⟩ | exact .inr ⟨rfl, rfl, lt3 rfl rfl rfl⟩ | fail)))
          exact max_ok a b c
      · rw [oD] at hD
        have hP := whole_Multiply oD hb
        rw [hq] at hP
        repeat' first | (refine RegP.enter ?_; conv => whnf) | (refine DrawP.range (by kernel_rfl) ?_; conv => whnf) | (refine BuildP.frz ⟨rfl, ?_⟩; conv => whnf) | (refine BoxP.row ?_; conv => whnf) | (refine And.intro Nat.zero_lt_one ?_; conv => whnf) | (refine And.intro (Nat.succ_pos _) ?_; conv => whnf) | (refine call_same (hD) rfl ?_; conv => whnf) | (refine call_same (hR) rfl ?_; conv => whnf) | (refine call_same (hP) rfl ?_; conv => whnf) | (rw [bne_self_eq_false]; conv => whnf) | (rw [hw]; conv => whnf) | fail
        cases oM : inInt (a * c)
        · rw [oM] at hM hM2
          repeat' first | (refine RegP.enter ?_; conv => whnf) | (refine DrawP.range (by kernel_rfl) ?_; conv => whnf) | (refine BuildP.frz ⟨rfl, ?_⟩; conv => whnf) | (refine BoxP.row ?_; conv => whnf) | (refine And.intro Nat.zero_lt_one ?_; conv => whnf) | (refine And.intro (Nat.succ_pos _) ?_; conv => whnf) | (refine call_same (hM) rfl ?_; conv => whnf) | (refine call_same (hM2) rfl ?_; conv => whnf) | (refine call_same (int_ok a) rfl ?_; conv => whnf) | (refine call_same (int_ok b) rfl ?_; conv => whnf) | (refine call_same (int_ok c) rfl ?_; conv => whnf) | (rw [bne_self_eq_false]; conv => whnf) | (rw [beq_self_eq_true]; conv => whnf) | fail
          refine call_le (call_ok oMax [gInt a, gInt b, gInt c]) ?_ (by rfl) (by rfl) ?_
          · (iterate 3 ((all_goals try (conv => whnf)); (repeat' first | exact True.intro | (refine And.intro ?_ ?_) | rfl | exact fun _ h => h | exact .inl rfl | exact none_some | exact .inr ⟨rfl, rfl, fun _ _ => rfl⟩ | exact .inr ⟨rfl, rfl, lt1 rfl⟩ | exact .inr ⟨rfl, rfl, lt2 rfl rfl⟩ | exact .inr ⟨rfl, rfl, lt3 rfl rfl rfl⟩ | fail)))
            all_goals trace_state
          conv => whnf
          repeat' first | (refine RegP.enter ?_; conv => whnf) | (refine DrawP.range (by kernel_rfl) ?_; conv => whnf) | (refine BuildP.frz ⟨rfl, ?_⟩; conv => whnf) | (refine BoxP.row ?_; conv => whnf) | (refine And.intro Nat.zero_lt_one ?_; conv => whnf) | (refine And.intro (Nat.succ_pos _) ?_; conv => whnf) | fail
          refine call_le (hX) ?_ (by rfl) (by rfl) ?_
          · (iterate 3 ((all_goals try (conv => whnf)); (repeat' first | exact True.intro | (refine And.intro ?_ ?_) | rfl | exact fun _ h => h | exact .inl rfl | exact none_some | exact .inr ⟨rfl, rfl, fun _ _ => rfl⟩ | exact .inr ⟨rfl, rfl, lt1 rfl⟩ | exact .inr ⟨rfl, rfl, lt2 rfl rfl⟩ | exact .inr ⟨rfl, rfl, lt3 rfl rfl rfl⟩ | fail)))
            all_goals trace_state
          conv => whnf
          repeat' first | (refine RegP.enter ?_; conv => whnf) | (refine DrawP.range (by kernel_rfl) ?_; conv => whnf) | (refine BuildP.frz ⟨rfl, ?_⟩; conv => whnf) | (refine BoxP.row ?_; conv => whnf) | (refine And.intro Nat.zero_lt_one ?_; conv => whnf) | (refine And.intro (Nat.succ_pos _) ?_; conv => whnf) | (rw [bne_self_eq_false]; conv => whnf) | (rw [beq_self_eq_true]; conv => whnf) | fail
          refine Ent.of_check ?_ rfl
          conv => whnf
          (iterate 3 ((all_goals try (conv => whnf)); (repeat' first | exact True.intro | (refine And.intro ?_ ?_) | rfl | exact fun _ h => h | exact .inl rfl | exact none_some | exact .inr ⟨rfl, rfl, fun _ _ => rfl⟩ | exact .inr ⟨rfl, rfl, lt1 rfl⟩ | exact .inr ⟨rfl, rfl, lt2 rfl rfl⟩ | exact .inr ⟨rfl, rfl, lt3 rfl rfl rfl⟩ | fail)))
          exact max_ok a b c
        · rw [oM] at hM hM2
          repeat' first | (refine RegP.enter ?_; conv => whnf) | (refine DrawP.range (by kernel_rfl) ?_; conv => whnf) | (refine BuildP.frz ⟨rfl, ?_⟩; conv => whnf) | (refine BoxP.row ?_; conv => whnf) | (refine And.intro Nat.zero_lt_one ?_; conv => whnf) | (refine And.intro (Nat.succ_pos _) ?_; conv => whnf) | (refine call_same (hM) rfl ?_; conv => whnf) | (refine call_same (hM2) rfl ?_; conv => whnf) | (refine call_same (int_ok a) rfl ?_; conv => whnf) | (refine call_same (int_ok b) rfl ?_; conv => whnf) | (refine call_same (int_ok c) rfl ?_; conv => whnf) | (rw [bne_self_eq_false]; conv => whnf) | (rw [beq_self_eq_true]; conv => whnf) | fail
          refine call_le (call_ok oMax [gInt a, gInt b, gInt c]) ?_ (by rfl) (by rfl) ?_
          · (iterate 3 ((all_goals try (conv => whnf)); (repeat' first | exact True.intro | (refine And.intro ?_ ?_) | rfl | exact fun _ h => h | exact .inl rfl | exact none_some | exact .inr ⟨rfl, rfl, fun _ _ => rfl⟩ | exact .inr ⟨rfl, rfl, lt1 rfl⟩ | exact .inr ⟨rfl, rfl, lt2 rfl rfl⟩ | exact .inr ⟨rfl, rfl, lt3 rfl rfl rfl⟩ | fail)))
            all_goals trace_state
          conv => whnf
          repeat' first | (refine RegP.enter ?_; conv => whnf) | (refine DrawP.range (by kernel_rfl) ?_; conv => whnf) | (refine BuildP.frz ⟨rfl, ?_⟩; conv => whnf) | (refine BoxP.row ?_; conv => whnf) | (refine And.intro Nat.zero_lt_one ?_; conv => whnf) | (refine And.intro (Nat.succ_pos _) ?_; conv => whnf) | fail
          refine call_le (hX) ?_ (by rfl) (by rfl) ?_
          · (iterate 3 ((all_goals try (conv => whnf)); (repeat' first | exact True.intro | (refine And.intro ?_ ?_) | rfl | exact fun _ h => h | exact .inl rfl | exact none_some | exact .inr ⟨rfl, rfl, fun _ _ => rfl⟩ | exact .inr ⟨rfl, rfl, lt1 rfl⟩ | exact .inr ⟨rfl, rfl, lt2 rfl rfl⟩ | exact .inr ⟨rfl, rfl, lt3 rfl rfl rfl⟩ | fail)))
            all_goals trace_state
          conv => whnf
          repeat' first | (refine RegP.enter ?_; conv => whnf) | (refine DrawP.range (by kernel_rfl) ?_; conv => whnf) | (refine BuildP.frz ⟨rfl, ?_⟩; conv => whnf) | (refine BoxP.row ?_; conv => whnf) | (refine And.intro Nat.zero_lt_one ?_; conv => whnf) | (refine And.intro (Nat.succ_pos _) ?_; conv => whnf) | (rw [bne_self_eq_false]; conv => whnf) | (rw [beq_self_eq_true]; conv => whnf) | fail
          refine Ent.of_check ?_ rfl
          conv => whnf
          (iterate 3 ((all_goals try (conv => whnf)); (repeat' first | exact True.intro | (refine And.intro ?_ ?_) | rfl | exact fun _ h => h | exact .inl rfl | exact none_some | exact .inr ⟨rfl, rfl, fun _ _ => rfl⟩ | exact .inr ⟨rfl, rfl, lt1 rfl⟩ | exact .inr ⟨rfl, rfl, lt2 rfl rfl⟩ | exact .inr ⟨rfl, rfl, lt3 rfl rfl rfl⟩ | fail)))
          exact max_ok a b c
    · rw [oS] at hS
      have hB := whole_Add oS hb
      rw [show a - b + b = a by omega, ha] at hB
      repeat' first | (refine RegP.enter ?_; conv => whnf) | (refine DrawP.range (by kernel_rfl) ?_; conv => whnf) | (refine BuildP.frz ⟨rfl, ?_⟩; conv => whnf) | (refine BoxP.row ?_; conv => whnf) | (refine And.intro Nat.zero_lt_one ?_; conv => whnf) | (refine And.intro (Nat.succ_pos _) ?_; conv => whnf) | (refine call_same (hS) rfl ?_; conv => whnf) | (refine call_same (hB) rfl ?_; conv => whnf) | (rw [bne_self_eq_false]; conv => whnf) | fail
      by_cases b0 : b = 0
      · have hD := whole_Divide0 ha hb b0
        have hR := whole_Mod0 ha hb b0
        have e0 : (b != 0) = false := by rw [b0]; rfl
        repeat' first | (refine RegP.enter ?_; conv => whnf) | (refine DrawP.range (by kernel_rfl) ?_; conv => whnf) | (refine BuildP.frz ⟨rfl, ?_⟩; conv => whnf) | (refine BoxP.row ?_; conv => whnf) | (refine And.intro Nat.zero_lt_one ?_; conv => whnf) | (refine And.intro (Nat.succ_pos _) ?_; conv => whnf) | (refine call_same (hD) rfl ?_; conv => whnf) | (refine call_same (hR) rfl ?_; conv => whnf) | (rw [bne_self_eq_false]; conv => whnf) | (rw [e0]; conv => whnf) | fail
        cases oM : inInt (a * c)
        · rw [oM] at hM hM2
          repeat' first | (refine RegP.enter ?_; conv => whnf) | (refine DrawP.range (by kernel_rfl) ?_; conv => whnf) | (refine BuildP.frz ⟨rfl, ?_⟩; conv => whnf) | (refine BoxP.row ?_; conv => whnf) | (refine And.intro Nat.zero_lt_one ?_; conv => whnf) | (refine And.intro (Nat.succ_pos _) ?_; conv => whnf) | (refine call_same (hM) rfl ?_; conv => whnf) | (refine call_same (hM2) rfl ?_; conv => whnf) | (refine call_same (int_ok a) rfl ?_; conv => whnf) | (refine call_same (int_ok b) rfl ?_; conv => whnf) | (refine call_same (int_ok c) rfl ?_; conv => whnf) | (rw [bne_self_eq_false]; conv => whnf) | (rw [beq_self_eq_true]; conv => whnf) | fail
          refine call_le (call_ok oMax [gInt a, gInt b, gInt c]) ?_ (by rfl) (by rfl) ?_
          · (iterate 3 ((all_goals try (conv => whnf)); (repeat' first | exact True.intro | (refine And.intro ?_ ?_) | rfl | exact fun _ h => h | exact .inl rfl | exact none_some | exact .inr ⟨rfl, rfl, fun _ _ => rfl⟩ | exact .inr ⟨rfl, rfl, lt1 rfl⟩ | exact .inr ⟨rfl, rfl, lt2 rfl rfl⟩ | exact .inr ⟨rfl, rfl, lt3 rfl rfl rfl⟩ | fail)))
            all_goals trace_state
          conv => whnf
          repeat' first | (refine RegP.enter ?_; conv => whnf) | (refine DrawP.range (by kernel_rfl) ?_; conv => whnf) | (refine BuildP.frz ⟨rfl, ?_⟩; conv => whnf) | (refine BoxP.row ?_; conv => whnf) | (refine And.intro Nat.zero_lt_one ?_; conv => whnf) | (refine And.intro (Nat.succ_pos _) ?_; conv => whnf) | fail
          refine call_le (hX) ?_ (by rfl) (by rfl) ?_
          · (iterate 3 ((all_goals try (conv => whnf)); (repeat' first | exact True.intro | (refine And.intro ?_ ?_) | rfl | exact fun _ h => h | exact .inl rfl | exact none_some | exact .inr ⟨rfl, rfl, fun _ _ => rfl⟩ | exact .inr ⟨rfl, rfl, lt1 rfl⟩ | exact .inr ⟨rfl, rfl, lt2 rfl rfl⟩ | exact .inr ⟨rfl, rfl, lt3 rfl rfl rfl⟩ | fail)))
            all_goals trace_state
          conv => whnf
          repeat' first | (refine RegP.enter ?_; conv => whnf) | (refine DrawP.range (by kernel_rfl) ?_; conv => whnf) | (refine BuildP.frz ⟨rfl, ?_⟩; conv => whnf) | (refine BoxP.row ?_; conv => whnf) | (refine And.intro Nat.zero_lt_one ?_; conv => whnf) | (refine And.intro (Nat.succ_pos _) ?_; conv => whnf) | (rw [bne_self_eq_false]; conv => whnf) | (rw [beq_self_eq_true]; conv => whnf) | fail
          refine Ent.of_check ?_ rfl
          conv => whnf
          (iterate 3 ((all_goals try (conv => whnf)); (repeat' first | exact True.intro | (refine And.intro ?_ ?_) | rfl | exact fun _ h => h | exact .inl rfl | exact none_some | exact .inr ⟨rfl, rfl, fun _ _ => rfl⟩ | exact .inr ⟨rfl, rfl, lt1 rfl⟩ | exact .inr ⟨rfl, rfl, lt2 rfl rfl⟩ | exact .inr ⟨rfl, rfl, lt3 rfl rfl rfl⟩ | fail)))
          exact max_ok a b c
        · rw [oM] at hM hM2
          repeat' first | (refine RegP.enter ?_; conv => whnf) | (refine DrawP.range (by kernel_rfl) ?_; conv => whnf) | (refine BuildP.frz ⟨rfl, ?_⟩; conv => whnf) | (refine BoxP.row ?_; conv => whnf) | (refine And.intro Nat.zero_lt_one ?_; conv => whnf) | (refine And.intro (Nat.succ_pos _) ?_; conv => whnf) | (refine call_same (hM) rfl ?_; conv => whnf) | (refine call_same (hM2) rfl ?_; conv => whnf) | (refine call_same (int_ok a) rfl ?_; conv => whnf) | (refine call_same (int_ok b) rfl ?_; conv => whnf) | (refine call_same (int_ok c) rfl ?_; conv => whnf) | (rw [bne_self_eq_false]; conv => whnf) | (rw [beq_self_eq_true]; conv => whnf) | fail
          refine call_le (call_ok oMax [gInt a, gInt b, gInt c]) ?_ (by rfl) (by rfl) ?_
          · (iterate 3 ((all_goals try (conv => whnf)); (repeat' first | exact True.intro | (refine And.intro ?_ ?_) | rfl | exact fun _ h => h | exact .inl rfl | exact none_some | exact .inr ⟨rfl, rfl, fun _ _ => rfl⟩ | exact .inr ⟨rfl, rfl, lt1 rfl⟩ | exact .inr ⟨rfl, rfl, lt2 rfl rfl⟩ | exact .inr ⟨rfl, rfl, lt3 rfl rfl rfl⟩ | fail)))
            all_goals trace_state
          conv => whnf
          repeat' first | (refine RegP.enter ?_; conv => whnf) | (refine DrawP.range (by kernel_rfl) ?_; conv => whnf) | (refine BuildP.frz ⟨rfl, ?_⟩; conv => whnf) | (refine BoxP.row ?_; conv => whnf) | (refine And.intro Nat.zero_lt_one ?_; conv => whnf) | (refine And.intro (Nat.succ_pos _) ?_; conv => whnf) | fail
          refine call_le (hX) ?_ (by rfl) (by rfl) ?_
          · (iterate 3 ((all_goals try (conv => whnf)); (repeat' first | exact True.intro | (refine And.intro ?_ ?_) | rfl | exact fun _ h => h | exact .inl rfl | exact none_some | exact .inr ⟨rfl, rfl, fun _ _ => rfl⟩ | exact .inr ⟨rfl, rfl, lt1 rfl⟩ | exact .inr ⟨rfl, rfl, lt2 rfl rfl⟩ | exact .inr ⟨rfl, rfl, lt3 rfl rfl rfl⟩ | fail)))
            all_goals trace_state
          conv => whnf
          repeat' first | (refine RegP.enter ?_; conv => whnf) | (refine DrawP.range (by kernel_rfl) ?_; conv => whnf) | (refine BuildP.frz ⟨rfl, ?_⟩; conv => whnf) | (refine BoxP.row ?_; conv => whnf) | (refine And.intro Nat.zero_lt_one ?_; conv => whnf) | (refine And.intro (Nat.succ_pos _) ?_; conv => whnf) | (rw [bne_self_eq_false]; conv => whnf) | (rw [beq_self_eq_true]; conv => whnf) | fail
          refine Ent.of_check ?_ rfl
          conv => whnf
          (iterate 3 ((all_goals try (conv => whnf)); (repeat' first | exact True.intro | (refine And.intro ?_ ?_) | rfl | exact fun _ h => h | exact .inl rfl | exact none_some | exact .inr ⟨rfl, rfl, fun _ _ => rfl⟩ | exact .inr ⟨rfl, rfl, lt1 rfl⟩ | exact .inr ⟨rfl, rfl, lt2 rfl rfl⟩ | exact .inr ⟨rfl, rfl, lt3 rfl rfl rfl⟩ | fail)))
          exact max_ok a b c
      have hD := whole_Divide ha hb b0
      have hR := whole_Mod ha hb b0
      obtain ⟨hq, hw⟩ := quo_mul ha b0
      cases oD : inInt (a.tdiv b)
      · have b1 : b = -1 := Decidable.byContradiction fun h => by rw [tdiv_in ha b0 h] at oD; cases oD
        rw [oD] at hD
        have e0 : (b != 0) = true := by rw [b1]; rfl
        have e1 : (b != -1) = false := by rw [b1]; rfl
        repeat' first | (refine RegP.enter ?_; conv => whnf) | (refine DrawP.range (by kernel_rfl) ?_; conv => whnf) | (refine BuildP.frz ⟨rfl, ?_⟩; conv => whnf) | (refine BoxP.row ?_; conv => whnf) | (refine And.intro Nat.zero_lt_one ?_; conv => whnf) | (refine And.intro (Nat.succ_pos _) ?_; conv => whnf) | (refine call_same (hD) rfl ?_; conv => whnf) | (refine call_same (hR) rfl ?_; conv => whnf) | (rw [bne_self_eq_false]; conv => whnf) | (rw [e0]; conv => whnf) | (rw [e1]; conv => whnf) | fail
        cases oM : inInt (a * c)
        · rw [oM] at hM hM2
          repeat' first | (refine RegP.enter ?_; conv => whnf) | (refine DrawP.range (by kernel_rfl) ?_; conv => whnf) | (refine BuildP.frz ⟨rfl, ?_⟩; conv => whnf) | (refine BoxP.row ?_; conv => whnf) | (refine And.intro Nat.zero_lt_one ?_; conv => whnf) | (refine And.intro (Nat.succ_pos _) ?_; conv => whnf) | (refine call_same (hM) rfl ?_; conv => whnf) | (refine call_same (hM2) rfl ?_; conv => whnf) | (refine call_same (int_ok a) rfl ?_; conv => whnf) | (refine call_same (int_ok b) rfl ?_; conv => whnf) | (refine call_same (int_ok c) rfl ?_; conv => whnf) | (rw [bne_self_eq_false]; conv => whnf) | (rw [beq_self_eq_true]; conv => whnf) | fail
          refine call_le (call_ok oMax [gInt a, gInt b, gInt c]) ?_ (by rfl) (by rfl) ?_
          · (iterate 3 ((all_goals try (conv => whnf)); (repeat' first | exact True.intro | (refine And.intro ?_ ?_) | rfl | exact fun _ h => h | exact .inl rfl | exact none_some | exact .inr ⟨rfl, rfl, fun _ _ => rfl⟩ | exact .inr ⟨rfl, rfl, lt1 rfl⟩ | exact .inr ⟨rfl, rfl, lt2 rfl rfl⟩ | exact .inr ⟨rfl, rfl, lt3 rfl rfl rfl⟩ | fail)))
            all_goals trace_state
          conv => whnf
          repeat' first | (refine RegP.enter ?_; conv => whnf) | (refine DrawP.range (by kernel_rfl) ?_; conv => whnf) | (refine BuildP.frz ⟨rfl, ?_⟩; conv => whnf) | (refine BoxP.row ?_; conv => whnf) | (refine And.intro Nat.zero_lt_one ?_; conv => whnf) | (refine And.intro (Nat.succ_pos _) ?_; conv => whnf) | fail
          refine call_le (hX) ?_ (by rfl) (by rfl) ?_
          · (iterate 3 ((all_goals try (conv => whnf)); (repeat' first | exact True.intro | (refine And.intro ?_ ?_) | rfl | exact fun _ h => h | exact .inl rfl | exact none_some | exact .inr ⟨rfl, rfl, fun _ _ => rfl⟩ | exact .inr ⟨rfl, rfl, lt1 rfl⟩ | exact .inr ⟨rfl, rfl, lt2 rfl rfl⟩ | exact .inr ⟨rfl, rfl, lt3 rfl rfl rfl⟩ | fail)))
            all_goals trace_state
          conv => whnf
          repeat' first | (refine RegP.enter ?_; conv => whnf) | (refine DrawP.range (by kernel_rfl) ?_; conv => whnf) | (refine BuildP.frz ⟨rfl, ?_⟩; conv => whnf) | (refine BoxP.row ?_; conv => whnf) | (refine And.intro Nat.zero_lt_one ?_; conv => whnf) | (refine And.intro (Nat.succ_pos _) ?_; conv => whnf) | (rw [bne_self_eq_false]; conv => whnf) | (rw [beq_self_eq_true]; conv => whnf) | fail
          refine Ent.of_check ?_ rfl
          conv => whnf
          (iterate 3 ((all_goals try (conv => whnf)); (repeat' first | exact True.intro | (refine And.intro ?_ ?_) | rfl | exact fun _ h => h | exact .inl rfl | exact none_some | exact .inr ⟨rfl, rfl, fun _ _ => rfl⟩ | exact .inr ⟨rfl, rfl, lt1 rfl⟩ | exact .inr ⟨rfl, rfl, lt2 rfl rfl⟩ | exact .inr ⟨rfl, rfl, lt3 rfl rfl rfl⟩ | fail)))
          exact max_ok a b c
        · rw [oM] at hM hM2
          repeat' first | (refine RegP.enter ?_; conv => whnf) | (refine DrawP.range (by kernel_rfl) ?_; conv => whnf) | (refine BuildP.frz ⟨rfl, ?_⟩; conv => whnf) | (refine BoxP.row ?_; conv => whnf) | (refine And.intro Nat.zero_lt_one ?_; conv => whnf) | (refine And.intro (Nat.succ_pos _) ?_; conv => whnf) | (refine call_same (hM) rfl ?_; conv => whnf) | (refine call_same (hM2) rfl ?_; conv => whnf) | (refine call_same (int_ok a) rfl ?_; conv => whnf) | (refine call_same (int_ok b) rfl ?_; conv => whnf) | (refine call_same (int_ok c) rfl ?_; conv => whnf) | (rw [bne_self_eq_false]; conv => whnf) | (rw [beq_self_eq_true]; conv => whnf) | fail
          refine call_le (call_ok oMax [gInt a, gInt b, gInt c]) ?_ (by rfl) (by rfl) ?_
          · (iterate 3 ((all_goals try (conv => whnf)); (repeat' first | exact True.intro | (refine And.intro ?_ ?_) | rfl | exact fun _ h => h | exact .inl rfl | exact none_some | exact .inr ⟨rfl, rfl, fun _ _ => rfl⟩ | exact .inr ⟨rfl, rfl, lt1 rfl⟩ | exact .inr ⟨rfl, rfl, lt2 rfl rfl⟩ | exact .inr ⟨rfl, rfl, lt3 rfl rfl rfl⟩ | fail)))
            all_goals trace_state
          conv => whnf
          repeat' first | (refine RegP.enter ?_; conv => whnf) | (refine DrawP.range (by kernel_rfl) ?_; conv => whnf) | (refine BuildP.frz ⟨rfl, ?_⟩; conv => whnf) | (refine BoxP.row ?_; conv => whnf) | (refine And.intro Nat.zero_lt_one ?_; conv => whnf) | (refine And.intro (Nat.succ_pos _) ?_; conv => whnf) | fail
          refine call_le (hX) ?_ (by rfl) (by rfl) ?_
          · (iterate 3 ((all_goals try (conv => whnf)); (repeat' first | exact True.intro | (refine And.intro ?_ ?_) | rfl | exact fun _ h => h | exact .inl rfl | exact none_some | exact .inr ⟨rfl, rfl, fun _ _ => rfl⟩ | exact .inr ⟨rfl, rfl, lt1 rfl⟩ | exact .inr ⟨rfl, rfl, lt2 rfl rfl⟩ | exact .inr ⟨rfl, rfl, lt3 rfl rfl rfl⟩ | fail)))
            all_goals trace_state
          conv => whnf
          repeat' first | (refine RegP.enter ?_; conv => whnf) | (refine DrawP.range (by kernel_rfl) ?_; conv => whnf) | (refine BuildP.frz ⟨rfl, ?_⟩; conv => whnf) | (refine BoxP.row ?_; conv => whnf) | (refine And.intro Nat.zero_lt_one ?_; conv => whnf) | (refine And.intro (Nat.succ_pos _) ?_; conv => whnf) | (rw [bne_self_eq_false]; conv => whnf) | (rw [beq_self_eq_true]; conv => whnf) | fail
          refine Ent.of_check ?_ rfl
          conv => whnf
          (iterate 3 ((all_goals try (conv => whnf)); (repeat' first | exact True.intro | (refine And.intro ?_ ?_) | rfl | exact fun _ h => h | exact .inl rfl | exact none_some | exact .inr ⟨rfl, rfl, fun _ _ => rfl⟩ | exact .inr ⟨rfl, rfl, lt1 rfl⟩ | exact .inr ⟨rfl, rfl, lt2 rfl rfl⟩ | exact .inr ⟨rfl, rfl, lt3 rfl rfl rfl⟩ | fail)))
          exact max_ok a b c
      · rw [oD] at hD
        have hP := whole_Multiply oD hb
        rw [hq] at hP
        repeat' first | (refine RegP.enter ?_; conv => whnf) | (refine DrawP.range (by kernel_rfl) ?_; conv => whnf) | (refine BuildP.frz ⟨rfl, ?_⟩; conv => whnf) | (refine BoxP.row ?_; conv => whnf) | (refine And.intro Nat.zero_lt_one ?_; conv => whnf) | (refine And.intro (Nat.succ_pos _) ?_; conv => whnf) | (refine call_same (hD) rfl ?_; conv => whnf) | (refine call_same (hR) rfl ?_; conv => whnf) | (refine call_same (hP) rfl ?_; conv => whnf) | (rw [bne_self_eq_false]; conv => whnf) | (rw [hw]; conv => whnf) | fail
        cases oM : inInt (a * c)
        · rw [oM] at hM hM2
          repeat' first | (refine RegP.enter ?_; conv => whnf) | (refine DrawP.range (by kernel_rfl) ?_; conv => whnf) | (refine BuildP.frz ⟨rfl, ?_⟩; conv => whnf) | (refine BoxP.row ?_; conv => whnf) | (refine And.intro Nat.zero_lt_one ?_; conv => whnf) | (refine And.intro (Nat.succ_pos _) ?_; conv => whnf) | (refine call_same (hM) rfl ?_; conv => whnf) | (refine call_same (hM2) rfl ?_; conv => whnf) | (refine call_same (int_ok a) rfl ?_; conv => whnf) | (refine call_same (int_ok b) rfl ?_; conv => whnf) | (refine call_same (int_ok c) rfl ?_; conv => whnf) | (rw [bne_self_eq_false]; conv => whnf) | (rw [beq_self_eq_true]; conv => whnf) | fail
          refine call_le (call_ok oMax [gInt a, gInt b, gInt c]) ?_ (by rfl) (by rfl) ?_
          · (iterate 3 ((all_goals try (conv => whnf)); (repeat' first | exact True.intro | (refine And.intro ?_ ?_) | rfl | exact fun _ h => h | exact .inl rfl | exact none_some | exact .inr ⟨rfl, rfl, fun _ _ => rfl⟩ | exact .inr ⟨rfl, rfl, lt1 rfl⟩ | exact .inr ⟨rfl, rfl, lt2 rfl rfl⟩ | exact .inr ⟨rfl, rfl, lt3 rfl rfl rfl⟩ | fail)))
            all_goals trace_state
          conv => whnf
          repeat' first | (refine RegP.enter ?_; conv => whnf) | (refine DrawP.range (by kernel_rfl) ?_; conv => whnf) | (refine BuildP.frz ⟨rfl, ?_⟩; conv => whnf) | (refine BoxP.row ?_; conv => whnf) | (refine And.intro Nat.zero_lt_one ?_; conv => whnf) | (refine And.intro (Nat.succ_pos _) ?_; conv => whnf) | fail
          refine call_le (hX) ?_ (by rfl) (by rfl) ?_
          · (iterate 3 ((all_goals try (conv => whnf)); (repeat' first | exact True.intro | (refine And.intro ?_ ?_) | rfl | exact fun _ h => h | exact .inl rfl | exact none_some | exact .inr ⟨rfl, rfl, fun _ _ => rfl⟩ | exact .inr ⟨rfl, rfl, lt1 rfl⟩ | exact .inr ⟨rfl, rfl, lt2 rfl rfl⟩ | exact .inr ⟨rfl, rfl, lt3 rfl rfl rfl⟩ | fail)))
            all_goals trace_state
          conv => whnf
          repeat' first | (refine RegP.enter ?_; conv => whnf) | (refine DrawP.range (by kernel_rfl) ?_; conv => whnf) | (refine BuildP.frz ⟨rfl, ?_⟩; conv => whnf) | (refine BoxP.row ?_; conv => whnf) | (refine And.intro Nat.zero_lt_one ?_; conv => whnf) | (refine And.intro (Nat.succ_pos _) ?_; conv => whnf) | (rw [bne_self_eq_false]; conv => whnf) | (rw [beq_self_eq_true]; conv => whnf) | fail
          refine Ent.of_check ?_ rfl
          conv => whnf
          (iterate 3 ((all_goals try (conv => whnf)); (repeat' first | exact True.intro | (refine And.intro ?_ ?_) | rfl | exact fun _ h => h | exact .inl rfl | exact none_some | exact .inr ⟨rfl, rfl, fun _ _ => rfl⟩ | exact .inr ⟨rfl, rfl, lt1 rfl⟩ | exact .inr ⟨rfl, rfl, lt2 rfl rfl⟩ | exact .inr ⟨rfl, rfl, lt3 rfl rfl rfl⟩ | fail)))
          exact max_ok a b c
        · rw [oM] at hM hM2
          repeat' first | (refine RegP.enter ?_; conv => whnf) | (refine DrawP.range (by kernel_rfl) ?_; conv => whnf) | (refine BuildP.frz ⟨rfl, ?_⟩; conv => whnf) | (refine BoxP.row ?_; conv => whnf) | (refine And.intro Nat.zero_lt_one ?_; conv => whnf) | (refine And.intro (Nat.succ_pos _) ?_; conv => whnf) | (refine call_same (hM) rfl ?_; conv => whnf) | (refine call_same (hM2) rfl ?_; conv => whnf) | (refine call_same (int_ok a) rfl ?_; conv => whnf) | (refine call_same (int_ok b) rfl ?_; conv => whnf) | (refine call_same (int_ok c) rfl ?_; conv => whnf) | (rw [bne_self_eq_false]; conv => whnf) | (rw [beq_self_eq_true]; conv => whnf) | fail
          refine call_le (call_ok oMax [gInt a, gInt b, gInt c]) ?_ (by rfl) (by rfl) ?_
          · (iterate 3 ((all_goals try (conv => whnf)); (repeat' first | exact True.intro | (refine And.intro ?_ ?_) | rfl | exact fun _ h => h | exact .inl rfl | exact none_some | exact .inr ⟨rfl, rfl, fun _ _ => rfl⟩ | exact .inr ⟨rfl, rfl, lt1 rfl⟩ | exact .inr ⟨rfl, rfl, lt2 rfl rfl⟩ | exact .inr ⟨rfl, rfl, lt3 rfl rfl rfl⟩ | fail)))
            all_goals trace_state
          conv => whnf
          repeat' first | (refine RegP.enter ?_; conv => whnf) | (refine DrawP.range (by kernel_rfl) ?_; conv => whnf) | (refine BuildP.frz ⟨rfl, ?_⟩; conv => whnf) | (refine BoxP.row ?_; conv => whnf) | (refine And.intro Nat.zero_lt_one ?_; conv => whnf) | (refine And.intro (Nat.succ_pos _) ?_; conv => whnf) | fail
          refine call_le (hX) ?_ (by rfl) (by rfl) ?_
          · (iterate 3 ((all_goals try (conv => whnf)); (repeat' first | exact True.intro | (refine And.intro ?_ ?_) | rfl | exact fun _ h => h | exact .inl rfl | exact none_some | exact .inr ⟨rfl, rfl, fun _ _ => rfl⟩ | exact .inr ⟨rfl, rfl, lt1 rfl⟩ | exact .inr ⟨rfl, rfl, lt2 rfl rfl⟩ | exact .inr ⟨rfl, rfl, lt3 rfl rfl rfl⟩ | fail)))
            all_goals trace_state
          conv => whnf
          repeat' first | (refine RegP.enter ?_; conv => whnf) | (refine DrawP.range (by kernel_rfl) ?_; conv => whnf) | (refine BuildP.frz ⟨rfl, ?_⟩; conv => whnf) | (refine BoxP.row ?_; conv => whnf) | (refine And.intro Nat.zero_lt_one ?_; conv => whnf) | (refine And.intro (Nat.succ_pos _) ?_; conv => whnf) | (rw [bne_self_eq_false]; conv => whnf) | (rw [beq_self_eq_true]; conv => whnf) | fail
          refine Ent.of_check ?_ rfl
          conv => whnf
          (iterate 3 ((all_goals try (conv => whnf)); (repeat' first | exact True.intro | (refine And.intro ?_ ?_) | rfl | exact fun _ h => h | exact .inl rfl | exact none_some | exact .inr ⟨rfl, rfl, fun _ _ => rfl⟩ | exact .inr ⟨rfl, rfl, lt1 rfl⟩ | exact .inr ⟨rfl, rfl, lt2 rfl rfl⟩ | exact .inr ⟨rfl, rfl, lt3 rfl rfl rfl⟩ | fail)))
          exact max_ok a b c
  · rw [oA] at hA hA2
    have hwA : IntKind.i64.wrap (a + b) = a + b := by have := inInt_iff.1 oA; exact wrap64 (by omega) (by omega)
    repeat' first | (refine RegP.enter ?_; conv => whnf) | (refine DrawP.range (by kernel_rfl) ?_; conv => whnf) | (refine BuildP.frz ⟨rfl, ?_⟩; conv => whnf) | (refine BoxP.row ?_; conv => whnf) | (refine And.intro Nat.zero_lt_one ?_; conv => whnf) | (refine And.intro (Nat.succ_pos _) ?_; conv => whnf) | (refine call_same (awake_ok) rfl ?_; conv => whnf) | (refine call_same (hA) rfl ?_; conv => whnf) | (refine call_same (hA2) rfl ?_; conv => whnf) | (rw [bne_self_eq_false]; conv => whnf) | (rw [hwA]; conv => whnf) | fail
    cases oS : inInt (a - b)
    · rw [oS] at hS
      repeat' first | (refine RegP.enter ?_; conv => whnf) | (refine DrawP.range (by kernel_rfl) ?_; conv => whnf) | (refine BuildP.frz ⟨rfl, ?_⟩; conv => whnf) | (refine BoxP.row ?_; conv => whnf) | (refine And.intro Nat.zero_lt_one ?_; conv => whnf) | (refine And.intro (Nat.succ_pos _) ?_; conv => whnf) | (refine call_same (hS) rfl ?_; conv => whnf) | fail
      by_cases b0 : b = 0
      · have hD := whole_Divide0 ha hb b0
        have hR := whole_Mod0 ha hb b0
        have e0 : (b != 0) = false := by rw [b0]; rfl
        repeat' first | (refine RegP.enter ?_; conv => whnf) | (refine DrawP.range (by kernel_rfl) ?_; conv => whnf) | (refine BuildP.frz ⟨rfl, ?_⟩; conv => whnf) | (refine BoxP.row ?_; conv => whnf) | (refine And.intro Nat.zero_lt_one ?_; conv => whnf) | (refine And.intro (Nat.succ_pos _) ?_; conv => whnf) | (refine call_same (hD) rfl ?_; conv => whnf) | (refine call_same (hR) rfl ?_; conv => whnf) | (rw [bne_self_eq_false]; conv => whnf) | (rw [e0]; conv => whnf) | fail
        cases oM : inInt (a * c)
        · rw [oM] at hM hM2
          repeat' first | (refine RegP.enter ?_; conv => whnf) | (refine DrawP.range (by kernel_rfl) ?_; conv => whnf) | (refine BuildP.frz ⟨rfl, ?_⟩; conv => whnf) | (refine BoxP.row ?_; conv => whnf) | (refine And.intro Nat.zero_lt_one ?_; conv => whnf) | (refine And.intro (Nat.succ_pos _) ?_; conv => whnf) | (refine call_same (hM) rfl ?_; conv => whnf) | (refine call_same (hM2) rfl ?_; conv => whnf) | (refine call_same (int_ok a) rfl ?_; conv => whnf) | (refine call_same (int_ok b) rfl ?_; conv => whnf) | (refine call_same (int_ok c) rfl ?_; conv => whnf) | (rw [bne_self_eq_false]; conv => whnf) | (rw [beq_self_eq_true]; conv => whnf) | fail
          refine call_le (call_ok oMax [gInt a, gInt b, gInt c]) ?_ (by rfl) (by rfl) ?_
          · (iterate 3 ((all_goals try (conv => whnf)); (repeat' first | exact True.intro | (refine And.intro ?_ ?_) | rfl | exact fun _ h => h | exact .inl rfl | exact none_some | exact .inr ⟨rfl, rfl, fun _ _ => rfl⟩ | exact .inr ⟨rfl, rfl, lt1 rfl⟩ | exact .inr ⟨rfl, rfl, lt2 rfl rfl⟩ | exact .inr ⟨rfl, rfl, lt3 rfl rfl rfl⟩ | fail)))
            all_goals trace_state
          conv => whnf
          repeat' first | (refine RegP.enter ?_; conv => whnf) | (refine DrawP.range (by kernel_rfl) ?_; conv => whnf) | (refine BuildP.frz ⟨rfl, ?_⟩; conv => whnf) | (refine BoxP.row ?_; conv => whnf) | (refine And.intro Nat.zero_lt_one ?_; conv => whnf) | (refine And.intro (Nat.succ_pos _) ?_; conv => whnf) | fail
          refine call_le (hX) ?_ (by rfl) (by rfl) ?_
          · (iterate 3 ((all_goals try (conv => whnf)); (repeat' first | exact True.intro | (refine And.intro ?_ ?_) | rfl | exact fun _ h => h | exact .inl rfl | exact none_some | exact .inr ⟨rfl, rfl, fun _ _ => rfl⟩ | exact .inr ⟨rfl, rfl, lt1 rfl⟩ | exact .inr ⟨rfl, rfl, lt2 rfl rfl⟩ | exact .inr ⟨rfl, rfl, lt3 rfl rfl rfl⟩ | fail)))
            all_goals trace_state
          conv => whnf
          repeat' first | (refine RegP.enter ?_; conv => whnf) | (refine DrawP.range (by kernel_rfl) ?_; conv => whnf) | (refine BuildP.frz ⟨rfl, ?_⟩; conv => whnf) | (refine BoxP.row ?_; conv => whnf) | (refine And.intro Nat.zero_lt_one ?_; conv => whnf) | (refine And.intro (Nat.succ_pos _) ?_; conv => whnf) | (rw [bne_self_eq_false]; conv => whnf) | (rw [beq_self_eq_true]; conv => whnf) | fail
          refine Ent.of_check ?_ rfl
          conv => whnf
          (iterate 3 ((all_goals try (conv => whnf)); (repeat' first | exact True.intro | (refine And.intro ?_ ?_) | rfl | exact fun _ h => h | exact .inl rfl | exact none_some | exact .inr ⟨rfl, rfl, fun _ _ => rfl⟩ | exact .inr ⟨rfl, rfl, lt1 rfl⟩ | exact .inr ⟨rfl, rfl, lt2 rfl rfl⟩ | exact .inr ⟨rfl, rfl, lt3 rfl rfl rfl⟩ | fail)))
          exact max_ok a b c
        · rw [oM] at hM hM2
          repeat' first | (refine RegP.enter ?_; conv => whnf) | (refine DrawP.range (by kernel_rfl) ?_; conv => whnf) | (refine BuildP.frz ⟨rfl, ?_⟩; conv => whnf) | (refine BoxP.row ?_; conv => whnf) | (refine And.intro Nat.zero_lt_one ?_; conv => whnf) | (refine And.intro (Nat.succ_pos _) ?_; conv => whnf) | (refine call_same (hM) rfl ?_; conv => whnf) | (refine call_same (hM2) rfl ?_; conv => whnf) | (refine call_same (int_ok a) rfl ?_; conv => whnf) | (refine call_same (int_ok b) rfl ?_; conv => whnf) | (refine call_same (int_ok c) rfl ?_; conv => whnf) | (rw [bne_self_eq_false]; conv => whnf) | (rw [beq_self_eq_true]; conv => whnf) | fail
          refine call_le (call_ok oMax [gInt a, gInt b, gInt c]) ?_ (by rfl) (by rfl) ?_
          · (iterate 3 ((all_goals try (conv => whnf)); (repeat' first | exact True.intro | (refine And.intro ?_ ?_) | rfl | exact fun _ h => h | exact .inl rfl | exact none_some | exact .inr ⟨rfl, rfl, fun _ _ => rfl⟩ | exact .inr ⟨rfl, rfl, lt1 rfl⟩ | exact .inr ⟨rfl, rfl, lt2 rfl rfl⟩ | exact .inr ⟨rfl, rfl, lt3 rfl rfl rfl⟩ | fail)))
            all_goals trace_state
          conv => whnf
          repeat' first | (refine RegP.enter ?_; conv => whnf) | (refine DrawP.range (by kernel_rfl) ?_; conv => whnf) | (refine BuildP.frz ⟨rfl, ?_⟩; conv => whnf) | (refine BoxP.row ?_; conv => whnf) | (refine And.intro Nat.zero_lt_one ?_; conv => whnf) | (refine And.intro (Nat.succ_pos _) ?_; conv => whnf) | fail
          refine call_le (hX) ?_ (by rfl) (by rfl) ?_
          · (iterate 3 ((all_goals try (conv => whnf)); (repeat' first | exact True.intro | (refine And.intro ?_ ?_) | rfl | exact fun _ h => h | exact .inl rfl | exact none_some | exact .inr ⟨rfl, rfl, fun _ _ => rfl⟩ | exact .inr ⟨rfl, rfl, lt1 rfl⟩ | exact .inr ⟨rfl, rfl, lt2 rfl rfl⟩ | exact .inr ⟨rfl, rfl, lt3 rfl rfl rfl⟩ | fail)))
            all_goals trace_state
          conv => whnf
          repeat' first | (refine RegP.enter ?_; conv => whnf) | (refine DrawP.range (by kernel_rfl) ?_; conv => whnf) | (refine BuildP.frz ⟨rfl, ?_⟩; conv => whnf) | (refine BoxP.row ?_; conv => whnf) | (refine And.intro Nat.zero_lt_one ?_; conv => whnf) | (refine And.intro (Nat.succ_pos _) ?_; conv => whnf) | (rw [bne_self_eq_false]; conv => whnf) | (rw [beq_self_eq_true]; conv => whnf) | fail
          refine Ent.of_check ?_ rfl
          conv => whnf
          (iterate 3 ((all_goals try (conv => whnf)); (repeat' first | exact True.intro | (refine And.intro ?_ ?_) | rfl | exact fun _ h => h | exact .inl rfl | exact none_some | exact .inr ⟨rfl, rfl, fun _ _ => rfl⟩ | exact .inr ⟨rfl, rfl, lt1 rfl⟩ | exact .inr ⟨rfl, rfl, lt2 rfl rfl⟩ | exact .inr ⟨rfl, rfl, lt3 rfl rfl rfl⟩ | fail)))
          exact max_ok a b c
      have hD := whole_Divide ha hb b0
      have hR := whole_Mod ha hb b0
      obtain ⟨hq, hw⟩ := quo_mul ha b0
      cases oD : inInt (a.tdiv b)
      · have b1 : b = -1 := Decidable.byContradiction fun h => by rw [tdiv_in ha b0 h] at oD; cases oD
        rw [oD] at hD
        have e0 : (b != 0) = true := by rw [b1]; rfl
        have e1 : (b != -1) = false := by rw [b1]; rfl
        repeat' first | (refine RegP.enter ?_; conv => whnf) | (refine DrawP.range (by kernel_rfl) ?_; conv => whnf) | (refine BuildP.frz ⟨rfl, ?_⟩; conv => whnf) | (refine BoxP.row ?_; conv => whnf) | (refine And.intro Nat.zero_lt_one ?_; conv => whnf) | (refine And.intro (Nat.succ_pos _) ?_; conv => whnf) | (refine call_same (hD) rfl ?_; conv => whnf) | (refine call_same (hR) rfl ?_; conv => whnf) | (rw [bne_self_eq_false]; conv => whnf) | (rw [e0]; conv => whnf) | (rw [e1]; conv => whnf) | fail
        cases oM : inInt (a * c)
        · rw [oM] at hM hM2
          repeat' first | (refine RegP.enter ?_; conv => whnf) | (refine DrawP.range (by kernel_rfl) ?_; conv => whnf) | (refine BuildP.frz ⟨rfl, ?_⟩; conv => whnf) | (refine BoxP.row ?_; conv => whnf) | (refine And.intro Nat.zero_lt_one ?_; conv => whnf) | (refine And.intro (Nat.succ_pos _) ?_; conv => whnf) | (refine call_same (hM) rfl ?_; conv => whnf) | (refine call_same (hM2) rfl ?_; conv => whnf) | (refine call_same (int_ok a) rfl ?_; conv => whnf) | (refine call_same (int_ok b) rfl ?_; conv => whnf) | (refine call_same (int_ok c) rfl ?_; conv => whnf) | (rw [bne_self_eq_false]; conv => whnf) | (rw [beq_self_eq_true]; conv => whnf) | fail
          refine call_le (call_ok oMax [gInt a, gInt b, gInt c]) ?_ (by rfl) (by rfl) ?_
          · (iterate 3 ((all_goals try (conv => whnf)); (repeat' first | exact True.intro | (refine And.intro ?_ ?_) | rfl | exact fun _ h => h | exact .inl rfl | exact none_some | exact .inr ⟨rfl, rfl, fun _ _ => rfl⟩ | exact .inr ⟨rfl, rfl, lt1 rfl⟩ | exact .inr ⟨rfl, rfl, lt2 rfl rfl⟩ | exact .inr ⟨rfl, rfl, lt3 rfl rfl rfl⟩ | fail)))
            all_goals trace_state
          conv => whnf
          repeat' first | (refine RegP.enter ?_; conv => whnf) | (refine DrawP.range (by kernel_rfl) ?_; conv => whnf) | (refine BuildP.frz ⟨rfl, ?_⟩; conv => whnf) | (refine BoxP.row ?_; conv => whnf) | (refine And.intro Nat.zero_lt_one ?_; conv => whnf) | (refine And.intro (Nat.succ_pos _) ?_; conv => whnf) | fail
          refine call_le (hX) ?_ (by rfl) (by rfl) ?_
          · (iterate 3 ((all_goals try (conv => whnf)); (repeat' first | exact True.intro | (refine And.intro ?_ ?_) | rfl | exact fun _ h => h | exact .inl rfl | exact none_some | exact .inr ⟨rfl, rfl, fun _ _ => rfl⟩ | exact .inr ⟨rfl, rfl, lt1 rfl⟩ | exact .inr ⟨rfl, rfl, lt2 rfl rfl⟩ | exact .inr ⟨rfl, rfl, lt3 rfl rfl rfl⟩ | fail)))
            all_goals trace_state
          conv => whnf
          repeat' first | (refine RegP.enter ?_; conv => whnf) | (refine DrawP.range (by kernel_rfl) ?_; conv => whnf) | (refine BuildP.frz ⟨rfl, ?_⟩; conv => whnf) | (refine BoxP.row ?_; conv => whnf) | (refine And.intro Nat.zero_lt_one ?_; conv => whnf) | (refine And.intro (Nat.succ_pos _) ?_; conv => whnf) | (rw [bne_self_eq_false]; conv => whnf) | (rw [beq_self_eq_true]; conv => whnf) | fail
          refine Ent.of_check ?_ rfl
          conv => whnf
          (iterate 3 ((all_goals try (conv => whnf)); (repeat' first | exact True.intro | (refine And.intro ?_ ?_) | rfl | exact fun _ h => h | exact .inl rfl | exact none_some | exact .inr ⟨rfl, rfl, fun _ _ => rfl⟩ | exact .inr ⟨rfl, rfl, lt1 rfl⟩ | exact .inr ⟨rfl, rfl, lt2 rfl rfl⟩ | exact .inr ⟨rfl, rfl, lt3 rfl rfl rfl⟩ | fail)))
          exact max_ok a b c
        · rw [oM] at hM hM2
          repeat' first | (refine RegP.enter ?_; conv => whnf) | (refine DrawP.range (by kernel_rfl) ?_; conv => whnf) | (refine BuildP.frz ⟨rfl, ?_⟩; conv => whnf) | (refine BoxP.row ?_; conv => whnf) | (refine And.intro Nat.zero_lt_one ?_; conv => whnf) | (refine And.intro (Nat.succ_pos _) ?_; conv => whnf) | (refine call_same (hM) rfl ?_; conv => whnf) | (refine call_same (hM2) rfl ?_; conv => whnf) | (refine call_same (int_ok a) rfl ?_; conv => whnf) | (refine call_same (int_ok b) rfl ?_; conv => whnf) | (refine call_same (int_ok c) rfl ?_; conv => whnf) | (rw [bne_self_eq_false]; conv => whnf) | (rw [beq_self_eq_true]; conv => whnf) | fail
          refine call_le (call_ok oMax [gInt a, gInt b, gInt c]) ?_ (by rfl) (by rfl) ?_
          · (iterate 3 ((all_goals try (conv => whnf)); (repeat' first | exact True.intro | (refine And.intro ?_ ?_) | rfl | exact fun _ h => h | exact .inl rfl | exact none_some | exact .inr ⟨rfl, rfl, fun _ _ => rfl⟩ | exact .inr ⟨rfl, rfl, lt1 rfl⟩ | exact .inr ⟨rfl, rfl, lt2 rfl rfl⟩ | exact .inr ⟨rfl, rfl, lt3 rfl rfl rfl⟩ | fail)))
            all_goals trace_state
          conv => whnf
          repeat' first | (refine RegP.enter ?_; conv => whnf) | (refine DrawP.range (by kernel_rfl) ?_; conv => whnf) | (refine BuildP.frz ⟨rfl, ?_⟩; conv => whnf) | (refine BoxP.row ?_; conv => whnf) | (refine And.intro Nat.zero_lt_one ?_; conv => whnf) | (refine And.intro (Nat.succ_pos _) ?_; conv => whnf) | fail
          refine call_le (hX) ?_ (by rfl) (by rfl) ?_
          · (iterate 3 ((all_goals try (conv => whnf)); (repeat' first | exact True.intro | (refine And.intro ?_ ?_) | rfl | exact fun _ h => h | exact .inl rfl | exact none_some | exact .inr ⟨rfl, rfl, fun _ _ => rfl⟩ | exact .inr ⟨rfl, rfl, lt1 rfl⟩ | exact .inr ⟨rfl, rfl, lt2 rfl rfl⟩ | exact .inr ⟨rfl, rfl, lt3 rfl rfl rfl⟩ | fail)))
            all_goals trace_state
          conv => whnf
          repeat' first | (refine RegP.enter ?_; conv => whnf) | (refine DrawP.range (by kernel_rfl) ?_; conv => whnf) | (refine BuildP.frz ⟨rfl, ?_⟩; conv => whnf) | (refine BoxP.row ?_; conv => whnf) | (refine And.intro Nat.zero_lt_one ?_; conv => whnf) | (refine And.intro (Nat.succ_pos _) ?_; conv => whnf) | (rw [bne_self_eq_false]; conv => whnf) | (rw [beq_self_eq_true]; conv => whnf) | fail
          refine Ent.of_check ?_ rfl
          conv => whnf
          (iterate 3 ((all_goals try (conv => whnf)); (repeat' first | exact True.intro | (refine And.intro ?_ ?_) | rfl | exact fun _ h => h | exact .inl rfl | exact none_some | exact .inr ⟨rfl, rfl, fun _ _ => rfl⟩ | exact .inr ⟨rfl, rfl, lt1 rfl⟩ | exact .inr ⟨rfl, rfl, lt2 rfl rfl⟩ | exact .inr ⟨rfl, rfl, lt3 rfl rfl rfl⟩ | fail)))
          exact max_ok a b c
      · rw [oD] at hD
        have hP := whole_Multiply oD hb
        rw [hq] at hP
        repeat' first | (refine RegP.enter ?_; conv => whnf) | (refine DrawP.range (by kernel_rfl) ?_; conv => whnf) | (refine BuildP.frz ⟨rfl, ?_⟩; conv => whnf) | (refine BoxP.row ?_; conv => whnf) | (refine And.intro Nat.zero_lt_one ?_; conv => whnf) | (refine And.intro (Nat.succ_pos _) ?_; conv => whnf) | (refine call_same (hD) rfl ?_; conv => whnf) | (refine call_same (hR) rfl ?_; conv => whnf) | (refine call_same (hP) rfl ?_; conv => whnf) | (rw [bne_self_eq_false]; conv => whnf) | (rw [hw]; conv => whnf) | fail
        cases oM : inInt (a * c)
        · rw [oM] at hM hM2
          repeat' first | (refine RegP.enter ?_; conv => whnf) | (refine DrawP.range (by kernel_rfl) ?_; conv => whnf) | (refine BuildP.frz ⟨rfl, ?_⟩; conv => whnf) | (refine BoxP.row ?_; conv => whnf) | (refine And.intro Nat.zero_lt_one ?_; conv => whnf) | (refine And.intro (Nat.succ_pos _) ?_; conv => whnf) | (refine call_same (hM) rfl ?_; conv => whnf) | (refine call_same (hM2) rfl ?_; conv => whnf) | (refine call_same (int_ok a) rfl ?_; conv => whnf) | (refine call_same (int_ok b) rfl ?_; conv => whnf) | (refine call_same (int_ok c) rfl ?_; conv => whnf) | (rw [bne_self_eq_false]; conv => whnf) | (rw [beq_self_eq_true]; conv => whnf) | fail
          refine call_le (call_ok oMax [gInt a, gInt b, gInt c]) ?_ (by rfl) (by rfl) ?_
          · (iterate 3 ((all_goals try (conv => whnf)); (repeat' first | exact True.intro | (refine And.intro ?_ ?_) | rfl | exact fun _ h => h | exact .inl rfl | exact none_some | exact .inr ⟨rfl, rfl, fun _ _ => rfl⟩ | exact .inr ⟨rfl, rfl, lt1 rfl⟩ | exact .inr ⟨rfl, rfl, lt2 rfl rfl⟩ | exact .inr ⟨rfl, rfl, lt3 rfl rfl rfl⟩ | fail)))
            all_goals trace_state
          conv => whnf
          repeat' first | (refine RegP.enter ?_; conv => whnf) | (refine DrawP.range (by kernel_rfl) ?_; conv => whnf) | (refine BuildP.frz ⟨rfl, ?_⟩; conv => whnf) | (refine BoxP.row ?_; conv => whnf) | (refine And.intro Nat.zero_lt_one ?_; conv => whnf) | (refine And.intro (Nat.succ_pos _) ?_; conv => whnf) | fail
          refine call_le (hX) ?_ (by rfl) (by rfl) ?_
          · (iterate 3 ((all_goals try (conv => whnf)); (repeat' first | exact True.intro | (refine And.intro ?_ ?_) | rfl | exact fun _ h => h | exact .inl rfl | exact none_some | exact .inr ⟨rfl, rfl, fun _ _ => rfl⟩ | exact .inr ⟨rfl, rfl, lt1 rfl⟩ | exact .inr ⟨rfl, rfl, lt2 rfl rfl⟩ | exact .inr ⟨rfl, rfl, lt3 rfl rfl rfl⟩ | fail)))
            all_goals trace_state
          conv => whnf
          repeat' first | (refine RegP.enter ?_; conv => whnf) | (refine DrawP.range (by kernel_rfl) ?_; conv => whnf) | (refine BuildP.frz ⟨rfl, ?_⟩; conv => whnf) | (refine BoxP.row ?_; conv => whnf) | (refine And.intro Nat.zero_lt_one ?_; conv => whnf) | (refine And.intro (Nat.succ_pos _) ?_; conv => whnf) | (rw [bne_self_eq_false]; conv => whnf) | (rw [beq_self_eq_true]; conv => whnf) | fail
          refine Ent.of_check ?_ rfl
          conv => whnf
          (iterate 3 ((all_goals try (conv => whnf)); (repeat' first | exact True.intro | (refine And.intro ?_ ?_) | rfl | exact fun _ h => h | exact .inl rfl | exact none_some | exact .inr ⟨rfl, rfl, fun _ _ => rfl⟩ | exact .inr ⟨rfl, rfl, lt1 rfl⟩ | exact .inr ⟨rfl, rfl, lt2 rfl rfl⟩ | exact .inr ⟨rfl, rfl, lt3 rfl rfl rfl⟩ | fail)))
          exact max_ok a b c
        · rw [oM] at hM hM2
          repeat' first | (refine RegP.enter ?_; conv => whnf) | (refine DrawP.range (by kernel_rfl) ?_; conv => whnf) | (refine BuildP.frz ⟨rfl, ?_⟩; conv => whnf) | (refine BoxP.row ?_; conv => whnf) | (refine And.intro Nat.zero_lt_one ?_; conv => whnf) | (refine And.intro (Nat.succ_pos _) ?_; conv => whnf) | (refine call_same (hM) rfl ?_; conv => whnf) | (refine call_same (hM2) rfl ?_; conv => whnf) | (refine call_same (int_ok a) rfl ?_; conv => whnf) | (refine call_same (int_ok b) rfl ?_; conv => whnf) | (refine call_same (int_ok c) rfl ?_; conv => whnf) | (rw [bne_self_eq_false]; conv => whnf) | (rw [beq_self_eq_true]; conv => whnf) | fail
          refine call_le (call_ok oMax [gInt a, gInt b, gInt c]) ?_ (by rfl) (by rfl) ?_
          · (iterate 3 ((all_goals try (conv => whnf)); (repeat' first | exact True.intro | (refine And.intro ?_ ?_) | rfl | exact fun _ h => h | exact .inl rfl | exact none_some | exact .inr ⟨rfl, rfl, fun _ _ => rfl⟩ | exact .inr ⟨rfl, rfl, lt1 rfl⟩ | exact .inr ⟨rfl, rfl, lt2 rfl rfl⟩ | exact .inr ⟨rfl, rfl, lt3 rfl rfl rfl⟩ | fail)))
            all_goals trace_state
          conv => whnf
          repeat' first | (refine RegP.enter ?_; conv => whnf) | (refine DrawP.range (by kernel_rfl) ?_; conv => whnf) | (refine BuildP.frz ⟨rfl, ?_⟩; conv => whnf) | (refine BoxP.row ?_; conv => whnf) | (refine And.intro Nat.zero_lt_one ?_; conv => whnf) | (refine And.intro (Nat.succ_pos _) ?_; conv => whnf) | fail
          refine call_le (hX) ?_ (by rfl) (by rfl) ?_
          · (iterate 3 ((all_goals try (conv => whnf)); (repeat' first | exact True.intro | (refine And.intro ?_ ?_) | rfl | exact fun _ h => h | exact .inl rfl | exact none_some | exact .inr ⟨rfl, rfl, fun _ _ => rfl⟩ | exact .inr ⟨rfl, rfl, lt1 rfl⟩ | exact .inr ⟨rfl, rfl, lt2 rfl rfl⟩ | exact .inr ⟨rfl, rfl, lt3 rfl rfl rfl⟩ | fail)))
            all_goals trace_state
          conv => whnf
          repeat' first | (refine RegP.enter ?_; conv => whnf) | (refine DrawP.range (by kernel_rfl) ?_; conv => whnf) | (refine BuildP.frz ⟨rfl, ?_⟩; conv => whnf) | (refine BoxP.row ?_; conv => whnf) | (refine And.intro Nat.zero_lt_one ?_; conv => whnf) | (refine And.intro (Nat.succ_pos _) ?_; conv => whnf) | (rw [bne_self_eq_false]; conv => whnf) | (rw [beq_self_eq_true]; conv => whnf) | fail
          refine Ent.of_check ?_ rfl
          conv => whnf
          (iterate 3 ((all_goals try (conv => whnf)); (repeat' first | exact True.intro | (refine And.intro ?_ ?_) | rfl | exact fun _ h => h | exact .inl rfl | exact none_some | exact .inr ⟨rfl, rfl, fun _ _ => rfl⟩ | exact .inr ⟨rfl, rfl, lt1 rfl⟩ | exact .inr ⟨rfl, rfl, lt2 rfl rfl⟩ | exact .inr ⟨rfl, rfl, lt3 rfl rfl rfl⟩ | fail)))
          exact max_ok a b c
    · rw [oS] at hS
      have hB := whole_Add oS hb
      rw [show a - b + b = a by omega, ha] at hB
      repeat' first | (refine RegP.enter ?_; conv => whnf) | (refine DrawP.range (by kernel_rfl) ?_; conv => whnf) | (refine BuildP.frz ⟨rfl, ?_⟩; conv => whnf) | (refine BoxP.row ?_; conv => whnf) | (refine And.intro Nat.zero_lt_one ?_; conv => whnf) | (refine And.intro (Nat.succ_pos _) ?_; conv => whnf) | (refine call_same (hS) rfl ?_; conv => whnf) | (refine call_same (hB) rfl ?_; conv => whnf) | (rw [bne_self_eq_false]; conv => whnf) | fail
      by_cases b0 : b = 0
      · have hD := whole_Divide0 ha hb b0
        have hR := whole_Mod0 ha hb b0
        have e0 : (b != 0) = false := by rw [b0]; rfl
        repeat' first | (refine RegP.enter ?_; conv => whnf) | (refine DrawP.range (by kernel_rfl) ?_; conv => whnf) | (refine BuildP.frz ⟨rfl, ?_⟩; conv => whnf) | (refine BoxP.row ?_; conv => whnf) | (refine And.intro Nat.zero_lt_one ?_; conv => whnf) | (refine And.intro (Nat.succ_pos _) ?_; conv => whnf) | (refine call_same (hD) rfl ?_; conv => whnf) | (refine call_same (hR) rfl ?_; conv => whnf) | (rw [bne_self_eq_false]; conv => whnf) | (rw [e0]; conv => whnf) | fail
        cases oM : inInt (a * c)
        · rw [oM] at hM hM2
          repeat' first | (refine RegP.enter ?_; conv => whnf) | (refine DrawP.range (by kernel_rfl) ?_; conv => whnf) | (refine BuildP.frz ⟨rfl, ?_⟩; conv => whnf) | (refine BoxP.row ?_; conv => whnf) | (refine And.intro Nat.zero_lt_one ?_; conv => whnf) | (refine And.intro (Nat.succ_pos _) ?_; conv => whnf) | (refine call_same (hM) rfl ?_; conv => whnf) | (refine call_same (hM2) rfl ?_; conv => whnf) | (refine call_same (int_ok a) rfl ?_; conv => whnf) | (refine call_same (int_ok b) rfl ?_; conv => whnf) | (refine call_same (int_ok c) rfl ?_; conv => whnf) | (rw [bne_self_eq_false]; conv => whnf) | (rw [beq_self_eq_true]; conv => whnf) | fail
          refine call_le (call_ok oMax [gInt a, gInt b, gInt c]) ?_ (by rfl) (by rfl) ?_
          · (iterate 3 ((all_goals try (conv => whnf)); (repeat' first | exact True.intro | (refine And.intro ?_ ?_) | rfl | exact fun _ h => h | exact .inl rfl | exact none_some | exact .inr ⟨rfl, rfl, fun _ _ => rfl⟩ | exact .inr ⟨rfl, rfl, lt1 rfl⟩ | exact .inr ⟨rfl, rfl, lt2 rfl rfl⟩ | exact .inr ⟨rfl, rfl, lt3 rfl rfl rfl⟩ | fail)))
            all_goals trace_state
          conv => whnf
          repeat' first | (refine RegP.enter ?_; conv => whnf) | (refine DrawP.range (by kernel_rfl) ?_; conv => whnf) | (refine BuildP.frz ⟨rfl, ?_⟩; conv => whnf) | (refine BoxP.row ?_; conv => whnf) | (refine And.intro Nat.zero_lt_one ?_; conv => whnf) | (refine And.intro (Nat.succ_pos _) ?_; conv => whnf) | fail
          refine call_le (hX) ?_ (by rfl) (by rfl) ?_
          · (iterate 3 ((all_goals try (conv => whnf)); (repeat' first | exact True.intro | (refine And.intro ?_ ?_) | rfl | exact fun _ h => h | exact .inl rfl | exact none_some | exact .inr ⟨rfl, rfl, fun _ _ => rfl⟩ | exact .inr ⟨rfl, rfl, lt1 rfl⟩ | exact .inr ⟨rfl, rfl, lt2 rfl rfl⟩ | exact .inr ⟨rfl, rfl, lt3 rfl rfl rfl⟩ | fail)))
            all_goals trace_state
          conv => whnf
          repeat' first | (refine RegP.enter ?_; conv => whnf) | (refine DrawP.range (by kernel_rfl) ?_; conv => whnf) | (refine BuildP.frz ⟨rfl, ?_⟩; conv => whnf) | (refine BoxP.row ?_; conv => whnf) | (refine And.intro Nat.zero_lt_one ?_; conv => whnf) | (refine And.intro (Nat.succ_pos _) ?_; conv => whnf) | (rw [bne_self_eq_false]; conv => whnf) | (rw [beq_self_eq_true]; conv => whnf) | fail
          refine Ent.of_check ?_ rfl
          conv => whnf
          (iterate 3 ((all_goals try (conv => whnf)); (repeat' first | exact True.intro | (refine And.intro ?_ ?_) | rfl | exact fun _ h => h | exact .inl rfl | exact none_some | exact .inr ⟨rfl, rfl, fun _ _ => rfl⟩ | exact .inr ⟨rfl, rfl, lt1 rfl⟩ | exact .inr ⟨rfl, rfl, lt2 rfl rfl⟩ | exact .inr ⟨rfl, rfl, lt3 rfl rfl rfl⟩ | fail)))
          exact max_ok a b c
        · rw [oM] at hM hM2
          repeat' first | (refine RegP.enter ?_; conv => whnf) | (refine DrawP.range (by kernel_rfl) ?_; conv => whnf) | (refine BuildP.frz ⟨rfl, ?_⟩; conv => whnf) | (refine BoxP.row ?_; conv => whnf) | (refine And.intro Nat.zero_lt_one ?_; conv => whnf) | (refine And.intro (Nat.succ_pos _) ?_; conv => whnf) | (refine call_same (hM) rfl ?_; conv => whnf) | (refine call_same (hM2) rfl ?_; conv => whnf) | (refine call_same (int_ok a) rfl ?_; conv => whnf) | (refine call_same (int_ok b) rfl ?_; conv => whnf) | (refine call_same (int_ok c) rfl ?_; conv => whnf) | (rw [bne_self_eq_false]; conv => whnf) | (rw [beq_self_eq_true]; conv => whnf) | fail
          refine call_le (call_ok oMax [gInt a, gInt b, gInt c]) ?_ (by rfl) (by rfl) ?_
          · (iterate 3 ((all_goals try (conv => whnf)); (repeat' first | exact True.intro | (refine And.intro ?_ ?_) | rfl | exact fun _ h => h | exact .inl rfl | exact none_some | exact .inr ⟨rfl, rfl, fun _ _ => rfl⟩ | exact .inr ⟨rfl, rfl, lt1 rfl⟩ | exact .inr ⟨rfl, rfl, lt2 rfl rfl⟩ | exact .inr ⟨rfl, rfl, lt3 rfl rfl rfl⟩ | fail)))
            all_goals trace_state
          conv => whnf
          repeat' first | (refine RegP.enter ?_; conv => whnf) | (refine DrawP.range (by kernel_rfl) ?_; conv => whnf) | (refine BuildP.frz ⟨rfl, ?_⟩; conv => whnf) | (refine BoxP.row ?_; conv => whnf) | (refine And.intro Nat.zero_lt_one ?_; conv => whnf) | (refine And.intro (Nat.succ_pos _) ?_; conv => whnf) | fail
          refine call_le (hX) ?_ (by rfl) (by rfl) ?_
          · (iterate 3 ((all_goals try (conv => whnf)); (repeat' first | exact True.intro | (refine And.intro ?_ ?_) | rfl | exact fun _ h => h | exact .inl rfl | exact none_some | exact .inr ⟨rfl, rfl, fun _ _ => rfl⟩ | exact .inr ⟨rfl, rfl, lt1 rfl⟩ | exact .inr ⟨rfl, rfl, lt2 rfl rfl⟩ | exact .inr ⟨rfl, rfl, lt3 rfl rfl rfl⟩ | fail)))
            all_goals trace_state
          conv => whnf
          repeat' first | (refine RegP.enter ?_; conv => whnf) | (refine DrawP.range (by kernel_rfl) ?_; conv => whnf) | (refine BuildP.frz ⟨rfl, ?_⟩; conv => whnf) | (refine BoxP.row ?_; conv => whnf) | (refine And.intro Nat.zero_lt_one ?_; conv => whnf) | (refine And.intro (Nat.succ_pos _) ?_; conv => whnf) | (rw [bne_self_eq_false]; conv => whnf) | (rw [beq_self_eq_true]; conv => whnf) | fail
          refine Ent.of_check ?_ rfl
          conv => whnf
          (iterate 3 ((all_goals try (conv => whnf)); (repeat' first | exact True.intro | (refine And.intro ?_ ?_) | rfl | exact fun _ h => h | exact .inl rfl | exact none_some | exact .inr ⟨rfl, rfl, fun _ _ => rfl⟩ | exact .inr ⟨rfl, rfl, lt1 rfl⟩ | exact .inr ⟨rfl, rfl, lt2 rfl rfl⟩ | exact .inr ⟨rfl, rfl, lt3 rfl rfl rfl⟩ | fail)))
          exact max_ok a b c
      have hD := whole_Divide ha hb b0
      have hR := whole_Mod ha hb b0
      obtain ⟨hq, hw⟩ := quo_mul ha b0
      cases oD : inInt (a.tdiv b)
      · have b1 : b = -1 := Decidable.byContradiction fun h => by rw [tdiv_in ha b0 h] at oD; cases oD
        rw [oD] at hD
        have e0 : (b != 0) = true := by rw [b1]; rfl
        have e1 : (b != -1) = false := by rw [b1]; rfl
        repeat' first | (refine RegP.enter ?_; conv => whnf) | (refine DrawP.range (by kernel_rfl) ?_; conv => whnf) | (refine BuildP.frz ⟨rfl, ?_⟩; conv => whnf) | (refine BoxP.row ?_; conv => whnf) | (refine And.intro Nat.zero_lt_one ?_; conv => whnf) | (refine And.intro (Nat.succ_pos _) ?_; conv => whnf) | (refine call_same (hD) rfl ?_; conv => whnf) | (refine call_same (hR) rfl ?_; conv => whnf) | (rw [bne_self_eq_false]; conv => whnf) | (rw [e0]; conv => whnf) | (rw [e1]; conv => whnf) | fail
        cases oM : inInt (a * c)
        · rw [oM] at hM hM2
          repeat' first | (refine RegP.enter ?_; conv => whnf) | (refine DrawP.range (by kernel_rfl) ?_; conv => whnf) | (refine BuildP.frz ⟨rfl, ?_⟩; conv => whnf) | (refine BoxP.row ?_; conv => whnf) | (refine And.intro Nat.zero_lt_one ?_; conv => whnf) | (refine And.intro (Nat.succ_pos _) ?_; conv => whnf) | (refine call_same (hM) rfl ?_; conv => whnf) | (refine call_same (hM2) rfl ?_; conv => whnf) | (refine call_same (int_ok a) rfl ?_; conv => whnf) | (refine call_same (int_ok b) rfl ?_; conv => whnf) | (refine call_same (int_ok c) rfl ?_; conv => whnf) | (rw [bne_self_eq_false]; conv => whnf) | (rw [beq_self_eq_true]; conv => whnf) | fail
          refine call_le (call_ok oMax [gInt a, gInt b, gInt c]) ?_ (by rfl) (by rfl) ?_
          · (iterate 3 ((all_goals try (conv => whnf)); (repeat' first | exact True.intro | (refine And.intro ?_ ?_) | rfl | exact fun _ h => h | exact .inl rfl | exact none_some | exact .inr ⟨rfl, rfl, fun _ _ => rfl⟩ | exact .inr ⟨rfl, rfl, lt1 rfl⟩ | exact .inr ⟨rfl, rfl, lt2 rfl rfl⟩ | exact .inr ⟨rfl, rfl, lt3 rfl rfl rfl⟩ | fail)))
            all_goals trace_state
          conv => whnf
          repeat' first | (refine RegP.enter ?_; conv => whnf) | (refine DrawP.range (by kernel_rfl) ?_; conv => whnf) | (refine BuildP.frz ⟨rfl, ?_⟩; conv => whnf) | (refine BoxP.row ?_; conv => whnf) | (refine And.intro Nat.zero_lt_one ?_; conv => whnf) | (refine And.intro (Nat.succ_pos _) ?_; conv => whnf) | fail
          refine call_le (hX) ?_ (by rfl) (by rfl) ?_
          · (iterate 3 ((all_goals try (conv => whnf)); (repeat' first | exact True.intro | (refine And.intro ?_ ?_) | rfl | exact fun _ h => h | exact .inl rfl | exact none_some | exact .inr ⟨rfl, rfl, fun _ _ => rfl⟩ | exact .inr ⟨rfl, rfl, lt1 rfl⟩ | exact .inr ⟨rfl, rfl, lt2 rfl rfl⟩ | exact .inr ⟨rfl, rfl, lt3 rfl rfl rfl⟩ | fail)))
            all_goals trace_state
          conv => whnf
          repeat' first | (refine RegP.enter ?_; conv => whnf) | (refine DrawP.range (by kernel_rfl) ?_; conv => whnf) | (refine BuildP.frz ⟨rfl, ?_⟩; conv => whnf) | (refine BoxP.row ?_; conv => whnf) | (refine And.intro Nat.zero_lt_one ?_; conv => whnf) | (refine And.intro (Nat.succ_pos _) ?_; conv => whnf) | (rw [bne_self_eq_false]; conv => whnf) | (rw [beq_self_eq_true]; conv => whnf) | fail
          refine Ent.of_check ?_ rfl
          conv => whnf
          (iterate 3 ((all_goals try (conv => whnf)); (repeat' first | exact True.intro | (refine And.intro ?_ ?_) | rfl | exact fun _ h => h | exact .inl rfl | exact none_some | exact .inr ⟨rfl, rfl, fun _ _ => rfl⟩ | exact .inr ⟨rfl, rfl, lt1 rfl⟩ | exact .inr ⟨rfl, rfl, lt2 rfl rfl⟩ | exact .inr ⟨rfl, rfl, lt3 rfl rfl rfl⟩ | fail)))
          exact max_ok a b c
        · rw [oM] at hM hM2
          repeat' first | (refine RegP.enter ?_; conv => whnf) | (refine DrawP.range (by kernel_rfl) ?_; conv => whnf) | (refine BuildP.frz ⟨rfl, ?_⟩; conv => whnf) | (refine BoxP.row ?_; conv => whnf) | (refine And.intro Nat.zero_lt_one ?_; conv => whnf) | (refine And.intro (Nat.succ_pos _) ?_; conv => whnf) | (refine call_same (hM) rfl ?_; conv => whnf) | (refine call_same (hM2) rfl ?_; conv => whnf) | (refine call_same (int_ok a) rfl ?_; conv => whnf) | (refine call_same (int_ok b) rfl ?_; conv => whnf) | (refine call_same (int_ok c) rfl ?_; conv => whnf) | (rw [bne_self_eq_false]; conv => whnf) | (rw [beq_self_eq_true]; conv => whnf) | fail
          refine call_le (call_ok oMax [gInt a, gInt b, gInt c]) ?_ (by rfl) (by rfl) ?_
          · (iterate 3 ((all_goals try (conv => whnf)); (repeat' first | exact True.intro | (refine And.intro ?_ ?_) | rfl | exact fun _ h => h | exact .inl rfl | exact none_some | exact .inr ⟨rfl, rfl, fun _ _ => rfl⟩ | exact .inr ⟨rfl, rfl, lt1 rfl⟩ | exact .inr ⟨rfl, rfl, lt2 rfl rfl⟩ | exact .inr ⟨rfl, rfl, lt3 rfl rfl rfl⟩ | fail)))
            all_goals trace_state
          conv => whnf
          repeat' first | (refine RegP.enter ?_; conv => whnf) | (refine DrawP.range (by kernel_rfl) ?_; conv => whnf) | (refine BuildP.frz ⟨rfl, ?_⟩; conv => whnf) | (refine BoxP.row ?_; conv => whnf) | (refine And.intro Nat.zero_lt_one ?_; conv => whnf) | (refine And.intro (Nat.succ_pos _) ?_; conv => whnf) | fail
          refine call_le (hX) ?_ (by rfl) (by rfl) ?_
          · (iterate 3 ((all_goals try (conv => whnf)); (repeat' first | exact True.intro | (refine And.intro ?_ ?_) | rfl | exact fun _ h => h | exact .inl rfl | exact none_some | exact .inr ⟨rfl, rfl, fun _ _ => rfl⟩ | exact .inr ⟨rfl, rfl, lt1 rfl⟩ | exact .inr ⟨rfl, rfl, lt2 rfl rfl⟩ | exact .inr ⟨rfl, rfl, lt3 rfl rfl rfl⟩ | fail)))
            all_goals trace_state
          conv => whnf
          repeat' first | (refine RegP.enter ?_; conv => whnf) | (refine DrawP.range (by kernel_rfl) ?_; conv => whnf) | (refine BuildP.frz ⟨rfl, ?_⟩; conv => whnf) | (refine BoxP.row ?_; conv => whnf) | (refine And.intro Nat.zero_lt_one ?_; conv => whnf) | (refine And.intro (Nat.succ_pos _) ?_; conv => whnf) | (rw [bne_self_eq_false]; conv => whnf) | (rw [beq_self_eq_true]; conv => whnf) | fail
          refine Ent.of_check ?_ rfl
          conv => whnf
          (iterate 3 ((all_goals try (conv => whnf)); (repeat' first | exact True.intro | (refine And.intro ?_ ?_) | rfl | exact fun _ h => h | exact .inl rfl | exact none_some | exact .inr ⟨rfl, rfl, fun _ _ => rfl⟩ | exact .inr ⟨rfl, rfl, lt1 rfl⟩ | exact .inr ⟨rfl, rfl, lt2 rfl rfl⟩ | exact .inr ⟨rfl, rfl, lt3 rfl rfl rfl⟩ | fail)))
          exact max_ok a b c
      · rw [oD] at hD
        have hP := whole_Multiply oD hb
        rw [hq] at hP
        repeat' first | (refine RegP.enter ?_; conv => whnf) | (refine DrawP.range (by kernel_rfl) ?_; conv => whnf) | (refine BuildP.frz ⟨rfl, ?_⟩; conv => whnf) | (refine BoxP.row ?_; conv => whnf) | (refine And.intro Nat.zero_lt_one ?_; conv => whnf) | (refine And.intro (Nat.succ_pos _) ?_; conv => whnf) | (refine call_same (hD) rfl ?_; conv => whnf) | (refine call_same (hR) rfl ?_; conv => whnf) | (refine call_same (hP) rfl ?_; conv => whnf) | (rw [bne_self_eq_false]; conv => whnf) | (rw [hw]; conv => whnf) | fail
        cases oM : inInt (a * c)
        · rw [oM] at hM hM2
          repeat' first | (refine RegP.enter ?_; conv => whnf) | (refine DrawP.range (by kernel_rfl) ?_; conv => whnf) | (refine BuildP.frz ⟨rfl, ?_⟩; conv => whnf) | (refine BoxP.row ?_; conv => whnf) | (refine And.intro Nat.zero_lt_one ?_; conv => whnf) | (refine And.intro (Nat.succ_pos _) ?_; conv => whnf) | (refine call_same (hM) rfl ?_; conv => whnf) | (refine call_same (hM2) rfl ?_; conv => whnf) | (refine call_same (int_ok a) rfl ?_; conv => whnf) | (refine call_same (int_ok b) rfl ?_; conv => whnf) | (refine call_same (int_ok c) rfl ?_; conv => whnf) | (rw [bne_self_eq_false]; conv => whnf) | (rw [beq_self_eq_true]; conv => whnf) | fail
          refine call_le (call_ok oMax [gInt a, gInt b, gInt c]) ?_ (by rfl) (by rfl) ?_
          · (iterate 3 ((all_goals try (conv => whnf)); (repeat' first | exact True.intro | (refine And.intro ?_ ?_) | rfl | exact fun _ h => h | exact .inl rfl | exact none_some | exact .inr ⟨rfl, rfl, fun _ _ => rfl⟩ | exact .inr ⟨rfl, rfl, lt1 rfl⟩ | exact .inr ⟨rfl, rfl, lt2 rfl rfl⟩ | exact .inr ⟨rfl, rfl, lt3 rfl rfl rfl⟩ | fail)))
            all_goals trace_state
          conv => whnf
          repeat' first | (refine RegP.enter ?_; conv => whnf) | (refine DrawP.range (by kernel_rfl) ?_; conv => whnf) | (refine BuildP.frz ⟨rfl, ?_⟩; conv => whnf) | (refine BoxP.row ?_; conv => whnf) | (refine And.intro Nat.zero_lt_one ?_; conv => whnf) | (refine And.intro (Nat.succ_pos _) ?_; conv => whnf) | fail
          refine call_le (hX) ?_ (by rfl) (by rfl) ?_
          · (iterate 3 ((all_goals try (conv => whnf)); (repeat' first | exact True.intro | (refine And.intro ?_ ?_) | rfl | exact fun _ h => h | exact .inl rfl | exact none_some | exact .inr ⟨rfl, rfl, fun _ _ => rfl⟩ | exact .inr ⟨rfl, rfl, lt1 rfl⟩ | exact .inr ⟨rfl, rfl, lt2 rfl rfl⟩ | exact .inr ⟨rfl, rfl, lt3 rfl rfl rfl⟩ | fail)))
            all_goals trace_state
          conv => whnf
          repeat' first | (refine RegP.enter ?_; conv => whnf) | (refine DrawP.range (by kernel_rfl) ?_; conv => whnf) | (refine BuildP.frz ⟨rfl, ?_⟩; conv => whnf) | (refine BoxP.row ?_; conv => whnf) | (refine And.intro Nat.zero_lt_one ?_; conv => whnf) | (refine And.intro (Nat.succ_pos _) ?_; conv => whnf) | (rw [bne_self_eq_false]; conv => whnf) | (rw [beq_self_eq_true]; conv => whnf) | fail
          refine Ent.of_check ?_ rfl
          conv => whnf
          (iterate 3 ((all_goals try (conv => whnf)); (repeat' first | exact True.intro | (refine And.intro ?_ ?_) | rfl | exact fun _ h => h | exact .inl rfl | exact none_some | exact .inr ⟨rfl, rfl, fun _ _ => rfl⟩ | exact .inr ⟨rfl, rfl, lt1 rfl⟩ | exact .inr ⟨rfl, rfl, lt2 rfl rfl⟩ | exact .inr ⟨rfl, rfl, lt3 rfl rfl rfl⟩ | fail)))
          exact max_ok a b c
        · rw [oM] at hM hM2
          repeat' first | (refine RegP.enter ?_; conv => whnf) | (refine DrawP.range (by kernel_rfl) ?_; conv => whnf) | (refine BuildP.frz ⟨rfl, ?_⟩; conv => whnf) | (refine BoxP.row ?_; conv => whnf) | (refine And.intro Nat.zero_lt_one ?_; conv => whnf) | (refine And.intro (Nat.succ_pos _) ?_; conv => whnf) | (refine call_same (hM) rfl ?_; conv => whnf) | (refine call_same (hM2) rfl ?_; conv => whnf) | (refine call_same (int_ok a) rfl ?_; conv => whnf) | (refine call_same (int_ok b) rfl ?_; conv => whnf) | (refine call_same (int_ok c) rfl ?_; conv => whnf) | (rw [bne_self_eq_false]; conv => whnf) | (rw [beq_self_eq_true]; conv => whnf) | fail
          refine call_le (call_ok oMax [gInt a, gInt b, gInt c]) ?_ (by rfl) (by rfl) ?_
          · (iterate 3 ((all_goals try (conv => whnf)); (repeat' first | exact True.intro | (refine And.intro ?_ ?_) | rfl | exact fun _ h => h | exact .inl rfl | exact none_some | exact .inr ⟨rfl, rfl, fun _ _ => rfl⟩ | exact .inr ⟨rfl, rfl, lt1 rfl⟩ | exact .inr ⟨rfl, rfl, lt2 rfl rfl⟩ | exact .inr ⟨rfl, rfl, lt3 rfl rfl rfl⟩ | fail)))
            all_goals trace_state
          conv => whnf
          repeat' first | (refine RegP.enter ?_; conv => whnf) | (refine DrawP.range (by kernel_rfl) ?_; conv => whnf) | (refine BuildP.frz ⟨rfl, ?_⟩; conv => whnf) | (refine BoxP.row ?_; conv => whnf) | (refine And.intro Nat.zero_lt_one ?_; conv => whnf) | (refine And.intro (Nat.succ_pos _) ?_; conv => whnf) | fail
          refine call_le (hX) ?_ (by rfl) (by rfl) ?_
          · (iterate 3 ((all_goals try (conv => whnf)); (repeat' first | exact True.intro | (refine And.intro ?_ ?_) | rfl | exact fun _ h => h | exact .inl rfl | exact none_some | exact .inr ⟨rfl, rfl, fun _ _ => rfl⟩ | exact .inr ⟨rfl, rfl, lt1 rfl⟩ | exact .inr ⟨rfl, rfl, lt2 rfl rfl⟩ | exact .inr ⟨rfl, rfl, lt3 rfl rfl rfl⟩ | fail)))
            all_goals trace_state
          conv => whnf
          repeat' first | (refine RegP.enter ?_; conv => whnf) | (refine DrawP.range (by kernel_rfl) ?_; conv => whnf) | (refine BuildP.frz ⟨rfl, ?_⟩; conv => whnf) | (refine BoxP.row ?_; conv => whnf) | (refine And.intro Nat.zero_lt_one ?_; conv => whnf) | (refine And.intro (Nat.succ_pos _) ?_; conv => whnf) | (rw [bne_self_eq_false]; conv => whnf) | (rw [beq_self_eq_true]; conv => whnf) | fail
          refine Ent.of_check ?_ rfl
          conv => whnf
          (iterate 3 ((all_goals try (conv => whnf)); (repeat' first | exact True.intro | (refine And.intro ?_ ?_) | rfl | exact fun _ h => h | exact .inl rfl | exact none_some | exact .inr ⟨rfl, rfl, fun _ _ => rfl⟩ | exact .inr ⟨rfl, rfl, lt1 rfl⟩ | exact .inr ⟨rfl, rfl, lt2 rfl rfl⟩ | exact .inr ⟨rfl, rfl, lt3 rfl rfl rfl⟩ | fail)))
          exact max_ok a b c
end Go.Eng

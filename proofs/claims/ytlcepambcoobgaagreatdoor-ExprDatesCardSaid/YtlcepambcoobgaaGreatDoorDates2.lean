/- Dates2: an engine for the program's code, and walks of its functions (De). -/
import Derived.Test.YtlcepambcoobgaaGreatDoorDates1
namespace Go.Eng
open Go.Proofs
set_option maxRecDepth 200000
set_option maxHeartbeats 40000000
theorem year_bd {a : Int} (hi : -9223372036854775808 ≤ a ∧ a ≤ 9223372036854775807) : -1000000000 ≤ yearA a ∧ yearA a ≤ 1000000000 := by
  have := (cal_bd (eraX_lt (a / 86400000))).1
  unfold yearA yearM
  split <;> omega
theorem next_day (a : Int) : (dayA (a + 86400000) = dayA a + 1 ∧ monthA (a + 86400000) = monthA a ∧ yearA (a + 86400000) = yearA a) ∨ (dayA (a + 86400000) = 1 ∧ 28 ≤ dayA a ∧ monthA (a + 86400000) = monthA a + 1 ∧ yearA (a + 86400000) = yearA a) ∨ (dayA (a + 86400000) = 1 ∧ dayA a = 31 ∧ monthA a = 12 ∧ monthA (a + 86400000) = 1 ∧ yearA (a + 86400000) = yearA a + 1) := by
  have h := date_next (a / 86400000)
  unfold dayA monthA yearA
  rw [show (a + 86400000) / 86400000 = a / 86400000 + 1 by omega]
  exact h
theorem dates_ok (a b : Int) (ha : inInt a = true) (hb : inInt b = true) : PSpec cxA 8 [.int a, .int b] (.ret (.bool true)) := by
  have hi := inInt_iff.1 ha
  have hib := inInt_iff.1 hb
  have lH := law_Hour ha
  have lM := law_Minute ha
  have lS := law_Second ha
  have lL := law_Milli ha
  have lW := law_Weekday ha
  have lD := law_Day ha
  have lN := law_Month ha
  have lY := law_Year ha
  have lYb := law_Year hb
  have bH : 0 ≤ hourM a ∧ hourM a ≤ 23 := by unfold hourM; omega
  have bM : 0 ≤ minuteM a ∧ minuteM a ≤ 59 := by unfold minuteM; omega
  have bS : 0 ≤ secondM a ∧ secondM a ≤ 59 := by unfold secondM; omega
  have bL : 0 ≤ milliM a ∧ milliM a ≤ 999 := by unfold milliM; omega
  have bW : 0 ≤ weekdayM a ∧ weekdayM a ≤ 6 := by unfold weekdayM; omega
  have bD : 1 ≤ dayA a ∧ dayA a ≤ 31 ∧ 1 ≤ monthA a ∧ monthA a ≤ 12 := date_bd _
  have bD' : 1 ≤ dayA (a + 86400000) ∧ dayA (a + 86400000) ≤ 31 ∧ 1 ≤ monthA (a + 86400000) ∧ monthA (a + 86400000) ≤ 12 := date_bd _
  have bY := year_bd hi
  have hrest : hourM a * 3600000 + minuteM a * 60000 + secondM a * 1000 + milliM a = a % 86400000 := by unfold hourM minuteM secondM milliM; omega
  have hoff : a ≥ -9223372036768375808 → (IntKind.i64.wrap (a - a % 86400000)).tmod 86400000 = 0 := by
    intro h
    rw [wrap64 (by omega) (by omega), show a - a % 86400000 = (a / 86400000) * 86400000 by omega]
    exact Int.mul_tmod_left _ _
  have hnext := next_day a
  have hwd : weekdayM (a + 86400000) = (weekdayM a + 1).tmod 7 := by
    rw [mW (by omega)]; unfold weekdayM; omega
  have hyear : a ≤ b → yearA a ≤ yearA b := fun h => year_le (by omega)
  have lW' := fun h => law_Weekday (a := a + 86400000) h
  have lD' := fun h => law_Day (a := a + 86400000) h
  have lN' := fun h => law_Month (a := a + 86400000) h
  have lY' := fun h => law_Year (a := a + 86400000) h
  rw [hwd] at lW'
  generalize hourM a = h at *
  generalize minuteM a = m at *
  generalize secondM a = s at *
  generalize milliM a = l at *
  generalize weekdayM a = w at *
  generalize dayA a = d at *
  generalize monthA a = n at *
  generalize yearA a = y at *
  generalize yearA b = c at *
  generalize dayA (a + 86400000) = d' at *
  generalize monthA (a + 86400000) = n' at *
  generalize yearA (a + 86400000) = y' at *
  have e12 : IntKind.i64.wrap (IntKind.i64.wrap (IntKind.i64.wrap (IntKind.i64.wrap (h * 3600000) + IntKind.i64.wrap (m * 60000)) + IntKind.i64.wrap (s * 1000)) + l) = a % 86400000 := by
    rw [w12 (h * 3600000) (by omega) (by omega), w12 (m * 60000) (by omega) (by omega), w12 (s * 1000) (by omega) (by omega), w12 (h * 3600000 + m * 60000) (by omega) (by omega), w12 (h * 3600000 + m * 60000 + s * 1000) (by omega) (by omega), w12 (h * 3600000 + m * 60000 + s * 1000 + l) (by omega) (by omega)]
    exact hrest
  have d1 : decide (h < 0) = false := decide_eq_false (by omega)
  have d2 : decide (h > 23) = false := decide_eq_false (by omega)
  have d3 : decide (m < 0) = false := decide_eq_false (by omega)
  have d4 : decide (m > 59) = false := decide_eq_false (by omega)
  have d5 : decide (s < 0) = false := decide_eq_false (by omega)
  have d6 : decide (s > 59) = false := decide_eq_false (by omega)
  have d7 : decide (l < 0) = false := decide_eq_false (by omega)
  have d8 : decide (l > 999) = false := decide_eq_false (by omega)
  have d9 : decide (w < 0) = false := decide_eq_false (by omega)
  have d10 : decide (w > 6) = false := decide_eq_false (by omega)
  have d11 : decide (d < 1) = false := decide_eq_false (by omega)
  have d12 : decide (d > 31) = false := decide_eq_false (by omega)
  have d13 : decide (n < 1) = false := decide_eq_false (by omega)
  have d14 : decide (n > 12) = false := decide_eq_false (by omega)
  have wd : IntKind.i64.wrap (d + 1) = d + 1 := w12 _ (by omega) (by omega)
  have wn : IntKind.i64.wrap (n + 1) = n + 1 := w12 _ (by omega) (by omega)
  have wy : IntKind.i64.wrap (y + 1) = y + 1 := w12 _ (by omega) (by omega)
  have ww : IntKind.i64.wrap (w + 1) = w + 1 := w12 _ (by omega) (by omega)
  refine PSpec.of_WC cxA_ok Tryz.func8 rfl Tryz.call8 (Nat.le_of_ble_eq_true rfl) (g := 1) ?_
  conv => whnf
  repeat' first | (refine RegP.enter ?_; conv => whnf) | (refine DrawP.range (by kernel_rfl) ?_; conv => whnf) | (refine BuildP.frz ⟨rfl, ?_⟩; conv => whnf) | (refine BoxP.row ?_; conv => whnf) | (refine And.intro Nat.zero_lt_one ?_; conv => whnf) | (refine And.intro (Nat.succ_pos _) ?_; conv => whnf) | (refine call_same (awake_ok) rfl ?_; conv => whnf) | (refine call_same (lH) rfl ?_; conv => whnf) | (refine call_same (lM) rfl ?_; conv => whnf) | (refine call_same (lS) rfl ?_; conv => whnf) | (refine call_same (lL) rfl ?_; conv => whnf) | (refine call_same (lW) rfl ?_; conv => whnf) | (refine call_same (lD) rfl ?_; conv => whnf) | (refine call_same (lN) rfl ?_; conv => whnf) | (refine call_same (lY) rfl ?_; conv => whnf) | (refine And.intro (by first | decide | assumption | omega | (simp; done) | (simp; omega)) ?_; conv => whnf) | fail
  as_aux_lemma =>
    cases hM : decide (a ≥ -9223372036768375808)
    · repeat' first | (refine RegP.enter ?_; conv => whnf) | (refine DrawP.range (by kernel_rfl) ?_; conv => whnf) | (refine BuildP.frz ⟨rfl, ?_⟩; conv => whnf) | (refine BoxP.row ?_; conv => whnf) | (refine And.intro Nat.zero_lt_one ?_; conv => whnf) | (refine And.intro (Nat.succ_pos _) ?_; conv => whnf) | (refine And.intro (by first | decide | assumption | omega | (simp; done) | (simp; omega)) ?_; conv => whnf) | (rw [e12]; conv => whnf) | (rw [d1]; conv => whnf) | (rw [d2]; conv => whnf) | (rw [d3]; conv => whnf) | (rw [d4]; conv => whnf) | (rw [d5]; conv => whnf) | (rw [d6]; conv => whnf) | (rw [d7]; conv => whnf) | (rw [d8]; conv => whnf) | (rw [d9]; conv => whnf) | (rw [d10]; conv => whnf) | (rw [d11]; conv => whnf) | (rw [d12]; conv => whnf) | (rw [d13]; conv => whnf) | (rw [d14]; conv => whnf) | (rw [hM]; conv => whnf) | fail
      as_aux_lemma =>
        cases hX : decide (a > 9223372036768375807)
        rotate_left
        · conv => whnf
          repeat' first | (refine RegP.enter ?_; conv => whnf) | (refine DrawP.range (by kernel_rfl) ?_; conv => whnf) | (refine BuildP.frz ⟨rfl, ?_⟩; conv => whnf) | (refine BoxP.row ?_; conv => whnf) | (refine And.intro Nat.zero_lt_one ?_; conv => whnf) | (refine And.intro (Nat.succ_pos _) ?_; conv => whnf) | fail
          refine Ent.of_check ?_ rfl
          conv => whnf
          (iterate 3 ((all_goals try (conv => whnf)); (repeat' first | exact True.intro | (refine And.intro ?_ ?_) | rfl | exact fun _ h => h | exact .inl rfl | exact none_some | exact .inr ⟨rfl, rfl, fun _ _ => rfl⟩ | exact .inr ⟨rfl, rfl, lt1 rfl⟩ | exact .inr ⟨rfl, rfl, lt2 rfl rfl⟩ | exact .inr ⟨rfl, rfl, lt3 rfl rfl rfl⟩ | fail)))
        have hX' : a ≤ 9223372036768375807 := by have := of_decide_eq_false hX; omega
        have wA : IntKind.i64.wrap (a + 86400000) = a + 86400000 := wrap64 (by omega) (by omega)
        have hA : inInt (a + 86400000) = true := inInt_iff.2 (by omega)
        have kW := lW' hA
        have kD := lD' hA
        have kN := lN' hA
        have kY := lY' hA
        conv => whnf
        have fin : decide (b < a) = false → decide (c ≥ y) = true := fun h => decide_eq_true (hyear (by have := of_decide_eq_false h; omega))
        rcases hnext with ⟨e1, e2, e3⟩ | ⟨e1, e0, e2, e3⟩ | ⟨e1, e0, e4, e2, e3⟩
        · subst e1; subst e2; subst e3
          have x1 : (d + 1 == 1) = false := by rw [beq_eq_false_iff_ne]; omega
          cases hB : decide (b < a)
          · have hc := fin hB
            repeat' first | (refine RegP.enter ?_; conv => whnf) | (refine DrawP.range (by kernel_rfl) ?_; conv => whnf) | (refine BuildP.frz ⟨rfl, ?_⟩; conv => whnf) | (refine BoxP.row ?_; conv => whnf) | (refine And.intro Nat.zero_lt_one ?_; conv => whnf) | (refine And.intro (Nat.succ_pos _) ?_; conv => whnf) | (refine call_same (kW) rfl ?_; conv => whnf) | (refine call_same (kD) rfl ?_; conv => whnf) | (refine call_same (kN) rfl ?_; conv => whnf) | (refine call_same (kY) rfl ?_; conv => whnf) | (refine call_same (lYb) rfl ?_; conv => whnf) | (refine And.intro (by first | decide | assumption | omega | (simp; done) | (simp; omega)) ?_; conv => whnf) | (rw [bne_self_eq_false]; conv => whnf) | (rw [wA]; conv => whnf) | (rw [ww]; conv => whnf) | (rw [wd]; conv => whnf) | (rw [beq_self_eq_true]; conv => whnf) | (rw [x1]; conv => whnf) | (rw [hB]; conv => whnf) | (rw [hc]; conv => whnf) | fail
            refine Ent.of_check ?_ rfl
            conv => whnf
            (iterate 3 ((all_goals try (conv => whnf)); (repeat' first | exact True.intro | (refine And.intro ?_ ?_) | rfl | exact fun _ h => h | exact .inl rfl | exact none_some | exact .inr ⟨rfl, rfl, fun _ _ => rfl⟩ | exact .inr ⟨rfl, rfl, lt1 rfl⟩ | exact .inr ⟨rfl, rfl, lt2 rfl rfl⟩ | exact .inr ⟨rfl, rfl, lt3 rfl rfl rfl⟩ | fail)))
          · repeat' first | (refine RegP.enter ?_; conv => whnf) | (refine DrawP.range (by kernel_rfl) ?_; conv => whnf) | (refine BuildP.frz ⟨rfl, ?_⟩; conv => whnf) | (refine BoxP.row ?_; conv => whnf) | (refine And.intro Nat.zero_lt_one ?_; conv => whnf) | (refine And.intro (Nat.succ_pos _) ?_; conv => whnf) | (refine call_same (kW) rfl ?_; conv => whnf) | (refine call_same (kD) rfl ?_; conv => whnf) | (refine call_same (kN) rfl ?_; conv => whnf) | (refine call_same (kY) rfl ?_; conv => whnf) | (refine call_same (lYb) rfl ?_; conv => whnf) | (refine And.intro (by first | decide | assumption | omega | (simp; done) | (simp; omega)) ?_; conv => whnf) | (rw [bne_self_eq_false]; conv => whnf) | (rw [wA]; conv => whnf) | (rw [ww]; conv => whnf) | (rw [wd]; conv => whnf) | (rw [beq_self_eq_true]; conv => whnf) | (rw [x1]; conv => whnf) | (rw [hB]; conv => whnf) | fail
            refine Ent.of_check ?_ rfl
            conv => whnf
            (iterate 3 ((all_goals try (conv => whnf)); (repeat' first | exact True.intro | (refine And.intro ?_ ?_) | rfl | exact fun _ h => h | exact .inl rfl | exact none_some | exact .inr ⟨rfl, rfl, fun _ _ => rfl⟩ | exact .inr ⟨rfl, rfl, lt1 rfl⟩ | exact .inr ⟨rfl, rfl, lt2 rfl rfl⟩ | exact .inr ⟨rfl, rfl, lt3 rfl rfl rfl⟩ | fail)))
        · subst e1; subst e2; subst e3
          have x1 : ((1 : Int) == d + 1) = false := by rw [beq_eq_false_iff_ne]; omega
          have x2 : decide (d ≥ 28) = true := decide_eq_true e0
          have x3 : (n == 12) = false := by rw [beq_eq_false_iff_ne]; omega
          cases x4 : (d == 31) <;> cases hB : decide (b < a)
          · have hc := fin hB
            repeat' first | (refine RegP.enter ?_; conv => whnf) | (refine DrawP.range (by kernel_rfl) ?_; conv => whnf) | (refine BuildP.frz ⟨rfl, ?_⟩; conv => whnf) | (refine BoxP.row ?_; conv => whnf) | (refine And.intro Nat.zero_lt_one ?_; conv => whnf) | (refine And.intro (Nat.succ_pos _) ?_; conv => whnf) | (refine call_same (kW) rfl ?_; conv => whnf) | (refine call_same (kD) rfl ?_; conv => whnf) | (refine call_same (kN) rfl ?_; conv => whnf) | (refine call_same (kY) rfl ?_; conv => whnf) | (refine call_same (lYb) rfl ?_; conv => whnf) | (refine And.intro (by first | decide | assumption | omega | (simp; done) | (simp; omega)) ?_; conv => whnf) | (rw [bne_self_eq_false]; conv => whnf) | (rw [wA]; conv => whnf) | (rw [ww]; conv => whnf) | (rw [wd]; conv => whnf) | (rw [wn]; conv => whnf) | (rw [beq_self_eq_true]; conv => whnf) | (rw [x1]; conv => whnf) | (rw [x2]; conv => whnf) | (rw [x3]; conv => whnf) | (rw [x4]; conv => whnf) | (rw [hB]; conv => whnf) | (rw [hc]; conv => whnf) | fail
            refine Ent.of_check ?_ rfl
            conv => whnf
            (iterate 3 ((all_goals try (conv => whnf)); (repeat' first | exact True.intro | (refine And.intro ?_ ?_) | rfl | exact fun _ h => h | exact .inl rfl | exact none_some | exact .inr ⟨rfl, rfl, fun _ _ => rfl⟩ | exact .inr ⟨rfl, rfl, lt1 rfl⟩ | exact .inr ⟨rfl, rfl, lt2 rfl rfl⟩ | exact .inr ⟨rfl, rfl, lt3 rfl rfl rfl⟩ | fail)))
          · repeat' first | (refine RegP.enter ?_; conv => whnf) | (refine DrawP.range (by kernel_rfl) ?_; conv => whnf) | (refine BuildP.frz ⟨rfl, ?_⟩; conv => whnf) | (refine BoxP.row ?_; conv => whnf) | (refine And.intro Nat.zero_lt_one ?_; conv => whnf) | (refine And.intro (Nat.succ_pos _) ?_; conv => whnf) | (refine call_same (kW) rfl ?_; conv => whnf) | (refine call_same (kD) rfl ?_; conv => whnf) | (refine call_same (kN) rfl ?_; conv => whnf) | (refine call_same (kY) rfl ?_; conv => whnf) | (refine call_same (lYb) rfl ?_; conv => whnf) | (refine And.intro (by first | decide | assumption | omega | (simp; done) | (simp; omega)) ?_; conv => whnf) | (rw [bne_self_eq_false]; conv => whnf) | (rw [wA]; conv => whnf) | (rw [ww]; conv => whnf) | (rw [wd]; conv => whnf) | (rw [wn]; conv => whnf) | (rw [beq_self_eq_true]; conv => whnf) | (rw [x1]; conv => whnf) | (rw [x2]; conv => whnf) | (rw [x3]; conv => whnf) | (rw [x4]; conv => whnf) | (rw [hB]; conv => whnf) | fail
            refine Ent.of_check ?_ rfl
            conv => whnf
            (iterate 3 ((all_goals try (conv => whnf)); (repeat' first | exact True.intro | (refine And.intro ?_ ?_) | rfl | exact fun _ h => h | exact .inl rfl | exact none_some | exact .inr ⟨rfl, rfl, fun _ _ => rfl⟩ | exact .inr ⟨rfl, rfl, lt1 rfl⟩ | exact .inr ⟨rfl, rfl, lt2 rfl rfl⟩ | exact .inr ⟨rfl, rfl, lt3 rfl rfl rfl⟩ | fail)))
          · have hc := fin hB
            repeat' first | (refine RegP.enter ?_; conv => whnf) | (refine DrawP.range (by kernel_rfl) ?_; conv => whnf) | (refine BuildP.frz ⟨rfl, ?_⟩; conv => whnf) | (refine BoxP.row ?_; conv => whnf) | (refine And.intro Nat.zero_lt_one ?_; conv => whnf) | (refine And.intro (Nat.succ_pos _) ?_; conv => whnf) | (refine call_same (kW) rfl ?_; conv => whnf) | (refine call_same (kD) rfl ?_; conv => whnf) | (refine call_same (kN) rfl ?_; conv => whnf) | (refine call_same (kY) rfl ?_; conv => whnf) | (refine call_same (lYb) rfl ?_; conv => whnf) | (refine And.intro (by first | decide | assumption | omega | (simp; done) | (simp; omega)) ?_; conv => whnf) | (rw [bne_self_eq_false]; conv => whnf) | (rw [wA]; conv => whnf) | (rw [ww]; conv => whnf) | (rw [wd]; conv => whnf) | (rw [wn]; conv => whnf) | (rw [beq_self_eq_true]; conv => whnf) | (rw [x1]; conv => whnf) | (rw [x2]; conv => whnf) | (rw [x3]; conv => whnf) | (rw [x4]; conv => whnf) | (rw [hB]; conv => whnf) | (rw [hc]; conv => whnf) | fail
            refine Ent.of_check ?_ rfl
            conv => whnf
            (iterate 3 ((all_goals try (conv => whnf)); (repeat' first | exact True.intro | (refine And.intro ?_ ?_) | rfl | exact fun _ h => h | exact .inl rfl | exact none_some | exact .inr ⟨rfl, rfl, fun _ _ => rfl⟩ | exact .inr ⟨rfl, rfl, lt1 rfl⟩ | exact .inr ⟨rfl, rfl, lt2 rfl rfl⟩ | exact .inr ⟨rfl, rfl, lt3 rfl rfl rfl⟩ | fail)))
          · repeat' first | (refine RegP.enter ?_; conv => whnf) | (refine DrawP.range (by kernel_rfl) ?_; conv => whnf) | (refine BuildP.frz ⟨rfl, ?_⟩; conv => whnf) | (refine BoxP.row ?_; conv => whnf) | (refine And.intro Nat.zero_lt_one ?_; conv => whnf) | (refine And.intro (Nat.succ_pos _) ?_; conv => whnf) | (refine call_same (kW) rfl ?_; conv => whnf) | (refine call_same (kD) rfl ?_; conv => whnf) | (refine call_same (kN) rfl ?_; conv => whnf) | (refine call_same (kY) rfl ?_; conv => whnf) | (refine call_same (lYb) rfl ?_; conv => whnf) | (refine And.intro (by first | decide | assumption | omega | (simp; done) | (simp; omega)) ?_; conv => whnf) | (rw [bne_self_eq_false]; conv => whnf) | (rw [wA]; conv => whnf) | (rw [ww]; conv => whnf) | (rw [wd]; conv => whnf) | (rw [wn]; conv => whnf) | (rw [beq_self_eq_true]; conv => whnf) | (rw [x1]; conv => whnf) | (rw [x2]; conv => whnf) | (rw [x3]; conv => whnf) | (rw [x4]; conv => whnf) | (rw [hB]; conv => whnf) | fail
            refine Ent.of_check ?_ rfl
            conv => whnf
            (iterate 3 ((all_goals try (conv => whnf)); (repeat' first | exact True.intro | (refine And.intro ?_ ?_) | rfl | exact fun _ h => h | exact .inl rfl | exact none_some | exact .inr ⟨rfl, rfl, fun _ _ => rfl⟩ | exact .inr ⟨rfl, rfl, lt1 rfl⟩ | exact .inr ⟨rfl, rfl, lt2 rfl rfl⟩ | exact .inr ⟨rfl, rfl, lt3 rfl rfl rfl⟩ | fail)))
        · subst e1; subst e0; subst e4; subst e2; subst e3
          cases hB : decide (b < a)
          · have hc := fin hB
            repeat' first | (refine RegP.enter ?_; conv => whnf) | (refine DrawP.range (by kernel_rfl) ?_; conv => whnf) | (refine BuildP.frz ⟨rfl, ?_⟩; conv => whnf) | (refine BoxP.row ?_; conv => whnf) | (refine And.intro Nat.zero_lt_one ?_; conv => whnf) | (refine And.intro (Nat.succ_pos _) ?_; conv => whnf) | (refine call_same (kW) rfl ?_; conv => whnf) | (refine call_same (kD) rfl ?_; conv => whnf) | (refine call_same (kN) rfl ?_; conv => whnf) | (refine call_same (kY) rfl ?_; conv => whnf) | (refine call_same (lYb) rfl ?_; conv => whnf) | (refine And.intro (by first | decide | assumption | omega | (simp; done) | (simp; omega)) ?_; conv => whnf) | (rw [bne_self_eq_false]; conv => whnf) | (rw [wA]; conv => whnf) | (rw [ww]; conv => whnf) | (rw [wd]; conv => whnf) | (rw [wn]; conv => whnf) | (rw [wy]; conv => whnf) | (rw [beq_self_eq_true]; conv => whnf) | (rw [hB]; conv => whnf) | (rw [hc]; conv => whnf) | fail
            refine Ent.of_check ?_ rfl
            conv => whnf
            (iterate 3 ((all_goals try (conv => whnf)); (repeat' first | exact True.intro | (refine And.intro ?_ ?_) | rfl | exact fun _ h => h | exact .inl rfl | exact none_some | exact .inr ⟨rfl, rfl, fun _ _ => rfl⟩ | exact .inr ⟨rfl, rfl, lt1 rfl⟩ | exact .inr ⟨rfl, rfl, lt2 rfl rfl⟩ | exact .inr ⟨rfl, rfl, lt3 rfl rfl rfl⟩ | fail)))
          · repeat' first | (refine RegP.enter ?_; conv => whnf) | (refine DrawP.range (by kernel_rfl) ?_; conv => whnf) | (refine BuildP.frz ⟨rfl, ?_⟩; conv => whnf) | (refine BoxP.row ?_; conv => whnf) | (refine And.intro Nat.zero_lt_one ?_; conv => whnf) | (refine And.intro (Nat.succ_pos _) ?_; conv => whnf) | (refine call_same (kW) rfl ?_; conv => whnf) | (refine call_same (kD) rfl ?_; conv => whnf) | (refine call_same (kN) rfl ?_; conv => whnf) | (refine call_same (kY) rfl ?_; conv => whnf) | (refine call_same (lYb) rfl ?_; conv => whnf) | (refine And.intro (by first | decide | assumption | omega | (simp; done) | (simp; omega)) ?_; conv => whnf) | (rw [bne_self_eq_false]; conv => whnf) | (rw [wA]; conv => whnf) | (rw [ww]; conv => whnf) | (rw [wd]; conv => whnf) | (rw [wn]; conv => whnf) | (rw [wy]; conv => whnf) | (rw [beq_self_eq_true]; conv => whnf) | (rw [hB]; conv => whnf) | fail
            refine Ent.of_check ?_ rfl
            conv => whnf
            (iterate 3 ((all_goals try (conv => whnf)); (repeat' first | exact True.intro | (refine And.intro ?_ ?_) | rfl | exact fun _ h => h | exact .inl rfl | exact none_some | exact .inr ⟨rfl, rfl, fun _ _ => rfl⟩ | exact .inr ⟨rfl, rfl, lt1 rfl⟩ | exact .inr ⟨rfl, rfl, lt2 rfl rfl⟩ | exact .inr ⟨rfl, rfl, lt3 rfl rfl rfl⟩ | fail)))
    · have o0 : ((IntKind.i64.wrap (a - a % 86400000)).tmod 86400000 != 0) = false := by rw [hoff (of_decide_eq_true hM)]; rfl
      repeat' first | (refine RegP.enter ?_; conv => whnf) | (refine DrawP.range (by kernel_rfl) ?_; conv => whnf) | (refine BuildP.frz ⟨rfl, ?_⟩; conv => whnf) | (refine BoxP.row ?_; conv => whnf) | (refine And.intro Nat.zero_lt_one ?_; conv => whnf) | (refine And.intro (Nat.succ_pos _) ?_; conv => whnf) | (refine And.intro (by first | decide | assumption | omega | (simp; done) | (simp; omega)) ?_; conv => whnf) | (rw [e12]; conv => whnf) | (rw [d1]; conv => whnf) | (rw [d2]; conv => whnf) | (rw [d3]; conv => whnf) | (rw [d4]; conv => whnf) | (rw [d5]; conv => whnf) | (rw [d6]; conv => whnf) | (rw [d7]; conv => whnf) | (rw [d8]; conv => whnf) | (rw [d9]; conv => whnf) | (rw [d10]; conv => whnf) | (rw [d11]; conv => whnf) | (rw [d12]; conv => whnf) | (rw [d13]; conv => whnf) | (rw [d14]; conv => whnf) | (rw [hM]; conv => whnf) | (rw [o0]; conv => whnf) | fail
      as_aux_lemma =>
        cases hX : decide (a > 9223372036768375807)
        rotate_left
        · conv => whnf
          repeat' first | (refine RegP.enter ?_; conv => whnf) | (refine DrawP.range (by kernel_rfl) ?_; conv => whnf) | (refine BuildP.frz ⟨rfl, ?_⟩; conv => whnf) | (refine BoxP.row ?_; conv => whnf) | (refine And.intro Nat.zero_lt_one ?_; conv => whnf) | (refine And.intro (Nat.succ_pos _) ?_; conv => whnf) | fail
          refine Ent.of_check ?_ rfl
          conv => whnf
          (iterate 3 ((all_goals try (conv => whnf)); (repeat' first | exact True.intro | (refine And.intro ?_ ?_) | rfl | exact fun _ h => h | exact .inl rfl | exact none_some | exact .inr ⟨rfl, rfl, fun _ _ => rfl⟩ | exact .inr ⟨rfl, rfl, lt1 rfl⟩ | exact .inr ⟨rfl, rfl, lt2 rfl rfl⟩ | exact .inr ⟨rfl, rfl, lt3 rfl rfl rfl⟩ | fail)))
        have hX' : a ≤ 9223372036768375807 := by have := of_decide_eq_false hX; omega
        have wA : IntKind.i64.wrap (a + 86400000) = a + 86400000 := wrap64 (by omega) (by omega)
        have hA : inInt (a + 86400000) = true := inInt_iff.2 (by omega)
        have kW := lW' hA
        have kD := lD' hA
        have kN := lN' hA
        have kY := lY' hA
        conv => whnf
        have fin : decide (b < a) = false → decide (c ≥ y) = true := fun h => decide_eq_true (hyear (by have := of_decide_eq_false h; omega))
        rcases hnext with ⟨e1, e2, e3⟩ | ⟨e1, e0, e2, e3⟩ | ⟨e1, e0, e4, e2, e3⟩
        · subst e1; subst e2; subst e3
          have x1 : (d + 1 == 1) = false := by rw [beq_eq_false_iff_ne]; omega
          cases hB : decide (b < a)
          · have hc := fin hB
            repeat' first | (refine RegP.enter ?_; conv => whnf) | (refine DrawP.range (by kernel_rfl) ?_; conv => whnf) | (refine BuildP.frz ⟨rfl, ?_⟩; conv => whnf) | (refine BoxP.row ?_; conv => whnf) | (refine And.intro Nat.zero_lt_one ?_; conv => whnf) | (refine And.intro (Nat.succ_pos _) ?_; conv => whnf) | (refine call_same (kW) rfl ?_; conv => whnf) | (refine call_same (kD) rfl ?_; conv => whnf) | (refine call_same (kN) rfl ?_; conv => whnf) | (refine call_same (kY) rfl ?_; conv => whnf) | (refine call_same (lYb) rfl ?_; conv => whnf) | (refine And.intro (by first | decide | assumption | omega | (simp; done) | (simp; omega)) ?_; conv => whnf) | (rw [bne_self_eq_false]; conv => whnf) | (rw [wA]; conv => whnf) | (rw [ww]; conv => whnf) | (rw [wd]; conv => whnf) | (rw [beq_self_eq_true]; conv => whnf) | (rw [x1]; conv => whnf) | (rw [hB]; conv => whnf) | (rw [hc]; conv => whnf) | fail
            refine Ent.of_check ?_ rfl
            conv => whnf
            (iterate 3 ((all_goals try (conv => whnf)); (repeat' first | exact True.intro | (refine And.intro ?_ ?_) | rfl | exact fun _ h => h | exact .inl rfl | exact none_some | exact .inr ⟨rfl, rfl, fun _ _ => rfl⟩ | exact .inr ⟨rfl, rfl, lt1 rfl⟩ | exact .inr ⟨rfl, rfl, lt2 rfl rfl⟩ | exact .inr ⟨rfl, rfl, lt3 rfl rfl rfl⟩ | fail)))
          · repeat' first | (refine RegP.enter ?_; conv => whnf) | (refine DrawP.range (by kernel_rfl) ?_; conv => whnf) | (refine BuildP.frz ⟨rfl, ?_⟩; conv => whnf) | (refine BoxP.row ?_; conv => whnf) | (refine And.intro Nat.zero_lt_one ?_; conv => whnf) | (refine And.intro (Nat.succ_pos _) ?_; conv => whnf) | (refine call_same (kW) rfl ?_; conv => whnf) | (refine call_same (kD) rfl ?_; conv => whnf) | (refine call_same (kN) rfl ?_; conv => whnf) | (refine call_same (kY) rfl ?_; conv => whnf) | (refine call_same (lYb) rfl ?_; conv => whnf) | (refine And.intro (by first | decide | assumption | omega | (simp; done) | (simp; omega)) ?_; conv => whnf) | (rw [bne_self_eq_false]; conv => whnf) | (rw [wA]; conv => whnf) | (rw [ww]; conv => whnf) | (rw [wd]; conv => whnf) | (rw [beq_self_eq_true]; conv => whnf) | (rw [x1]; conv => whnf) | (rw [hB]; conv => whnf) | fail
            refine Ent.of_check ?_ rfl
            conv => whnf
            (iterate 3 ((all_goals try (conv => whnf)); (repeat' first | exact True.intro | (refine And.intro ?_ ?_) | rfl | exact fun _ h => h | exact .inl rfl | exact none_some | exact .inr ⟨rfl, rfl, fun _ _ => rfl⟩ | exact .inr ⟨rfl, rfl, lt1 rfl⟩ | exact .inr ⟨rfl, rfl, lt2 rfl rfl⟩ | exact .inr ⟨rfl, rfl, lt3 rfl rfl rfl⟩ | fail)))
        · subst e1; subst e2; subst e3
          have x1 : ((1 : Int) == d + 1) = false := by rw [beq_eq_false_iff_ne]; omega
          have x2 : decide (d ≥ 28) = true := decide_eq_true e0
          have x3 : (n == 12) = false := by rw [beq_eq_false_iff_ne]; omega
          cases x4 : (d == 31) <;> cases hB : decide (b < a)
          · have hc := fin hB
            repeat' first | (refine RegP.enter ?_; conv => whnf) | (refine DrawP.range (by kernel_rfl) ?_; conv => whnf) | (refine BuildP.frz ⟨rfl, ?_⟩; conv => whnf) | (refine BoxP.row ?_; conv => whnf) | (refine And.intro Nat.zero_lt_one ?_; conv => whnf) | (refine And.intro (Nat.succ_pos _) ?_; conv => whnf) | (refine call_same (kW) rfl ?_; conv => whnf) | (refine call_same (kD) rfl ?_; conv => whnf) | (refine call_same (kN) rfl ?_; conv => whnf) | (refine call_same (kY) rfl ?_; conv => whnf) | (refine call_same (lYb) rfl ?_; conv => whnf) | (refine And.intro (by first | decide | assumption | omega | (simp; done) | (simp; omega)) ?_; conv => whnf) | (rw [bne_self_eq_false]; conv => whnf) | (rw [wA]; conv => whnf) | (rw [ww]; conv => whnf) | (rw [wd]; conv => whnf) | (rw [wn]; conv => whnf) | (rw [beq_self_eq_true]; conv => whnf) | (rw [x1]; conv => whnf) | (rw [x2]; conv => whnf) | (rw [x3]; conv => whnf) | (rw [x4]; conv => whnf) | (rw [hB]; conv => whnf) | (rw [hc]; conv => whnf) | fail
            refine Ent.of_check ?_ rfl
            conv => whnf
            (iterate 3 ((all_goals try (conv => whnf)); (repeat' first | exact True.intro | (refine And.intro ?_ ?_) | rfl | exact fun _ h => h | exact .inl rfl | exact none_some | exact .inr ⟨rfl, rfl, fun _ _ => rfl⟩ | exact .inr ⟨rfl, rfl, lt1 rfl⟩ | exact .inr ⟨rfl, rfl, lt2 rfl rfl⟩ | exact .inr ⟨rfl, rfl, lt3 rfl rfl rfl⟩ | fail)))
          · repeat' first | (refine RegP.enter ?_; conv => whnf) | (refine DrawP.range (by kernel_rfl) ?_; conv => whnf) | (refine BuildP.frz ⟨rfl, ?_⟩; conv => whnf) | (refine BoxP.row ?_; conv => whnf) | (refine And.intro Nat.zero_lt_one ?_; conv => whnf) | (refine And.intro (Nat.succ_pos _) ?_; conv => whnf) | (refine call_same (kW) rfl ?_; conv => whnf) | (refine call_same (kD) rfl ?_; conv => whnf) | (refine call_same (kN) rfl ?_; conv => whnf) | (refine call_same (kY) rfl ?_; conv => whnf) | (refine call_same (lYb) rfl ?_; conv => whnf) | (refine And.intro (by first | decide | assumption | omega | (simp; done) | (simp; omega)) ?_; conv => whnf) | (rw [bne_self_eq_false]; conv => whnf) | (rw [wA]; conv => whnf) | (rw [ww]; conv => whnf) | (rw [wd]; conv => whnf) | (rw [wn]; conv => whnf) | (rw [beq_self_eq_true]; conv => whnf) | (rw [x1]; conv => whnf) | (rw [x2]; conv => whnf) | (rw [x3]; conv => whnf) | (rw [x4]; conv => whnf) | (rw [hB]; conv => whnf) | fail
            refine Ent.of_check ?_ rfl
            conv => whnf
            (iterate 3 ((all_goals try (conv => whnf)); (repeat' first | exact True.intro | (refine And.intro ?_ ?_) | rfl | exact fun _ h => h | exact .inl rfl | exact none_some | exact .inr ⟨rfl, rfl, fun _ _ => rfl⟩ | exact .inr ⟨rfl, rfl, lt1 rfl⟩ | exact .inr ⟨rfl, rfl, lt2 rfl rfl⟩ | exact .inr ⟨rfl, rfl, lt3 rfl rfl rfl⟩ | fail)))
          · have hc := fin hB
            repeat' first | (refine RegP.enter ?_; conv => whnf) | (refine DrawP.range (by kernel_rfl) ?_; conv => whnf) | (refine BuildP.frz ⟨rfl, ?_⟩; conv => whnf) | (refine BoxP.row ?_; conv => whnf) | (refine And.intro Nat.zero_lt_one ?_; conv => whnf) | (refine And.intro (Nat.succ_pos _) ?_; conv => whnf) | (refine call_same (kW) rfl ?_; conv => whnf) | (refine call_same (kD) rfl ?_; conv => whnf) | (refine call_same (kN) rfl ?_; conv => whnf) | (refine call_same (kY) rfl ?_; conv => whnf) | (refine call_same (lYb) rfl ?_; conv => whnf) | (refine And.intro (by first | decide | assumption | omega | (simp; done) | (simp; omega)) ?_; conv => whnf) | (rw [bne_self_eq_false]; conv => whnf) | (rw [wA]; conv => whnf) | (rw [ww]; conv => whnf) | (rw [wd]; conv => whnf) | (rw [wn]; conv => whnf) | (rw [beq_self_eq_true]; conv => whnf) | (rw [x1]; conv => whnf) | (rw [x2]; conv => whnf) | (rw [x3]; conv => whnf) | (rw [x4]; conv => whnf) | (rw [hB]; conv => whnf) | (rw [hc]; conv => whnf) | fail
            refine Ent.of_check ?_ rfl
            conv => whnf
            (iterate 3 ((all_goals try (conv => whnf)); (repeat' first | exact True.intro | (refine And.intro ?_ ?_) | rfl | exact fun _ h => h | exact .inl rfl | exact none_some | exact .inr ⟨rfl, rfl, fun _ _ => rfl⟩ | exact .inr ⟨rfl, rfl, lt1 rfl⟩ | exact .inr ⟨rfl, rfl, lt2 rfl rfl⟩ | exact .inr ⟨rfl, rfl, lt3 rfl rfl rfl⟩ | fail)))
          · repeat' first | (refine RegP.enter ?_; conv => whnf) | (refine DrawP.range (by kernel_rfl) ?_; conv => whnf) | (refine BuildP.frz ⟨rfl, ?_⟩; conv => whnf) | (refine BoxP.row ?_; conv => whnf) | (refine And.intro Nat.zero_lt_one ?_; conv => whnf) | (refine And.intro (Nat.succ_pos _) ?_; conv => whnf) | (refine call_same (kW) rfl ?_; conv => whnf) | (refine call_same (kD) rfl ?_; conv => whnf) | (refine call_same (kN) rfl ?_; conv => whnf) | (refine call_same (kY) rfl ?_; conv => whnf) | (refine call_same (lYb) rfl ?_; conv => whnf) | (refine And.intro (by first | decide | assumption | omega | (simp; done) | (simp; omega)) ?_; conv => whnf) | (rw [bne_self_eq_false]; conv => whnf) | (rw [wA]; conv => whnf) | (rw [ww]; conv => whnf) | (rw [wd]; conv => whnf) | (rw [wn]; conv => whnf) | (rw [beq_self_eq_true]; conv => whnf) | (rw [x1]; conv => whnf) | (rw [x2]; conv => whnf) | (rw [x3]; conv => whnf) | (rw [x4]; conv => whnf) | (rw [hB]; conv => whnf) | fail
            refine Ent.of_check ?_ rfl
            conv => whnf
            (iterate 3 ((all_goals try (conv => whnf)); (repeat' first | exact True.intro | (refine And.intro ?_ ?_) | rfl | exact fun _ h => h | exact .inl rfl | exact none_some | exact .inr ⟨rfl, rfl, fun _ _ => rfl⟩ | exact .inr ⟨rfl, rfl, lt1 rfl⟩ | exact .inr ⟨rfl, rfl, lt2 rfl rfl⟩ | exact .inr ⟨rfl, rfl, lt3 rfl rfl rfl⟩ | fail)))
        · subst e1; subst e0; subst e4; subst e2; subst e3
          cases hB : decide (b < a)
          · have hc := fin hB
            repeat' first | (refine RegP.enter ?_; conv => whnf) | (refine DrawP.range (by kernel_rfl) ?_; conv => whnf) | (refine BuildP.frz ⟨rfl, ?_⟩; conv => whnf) | (refine BoxP.row ?_; conv => whnf) | (refine And.intro Nat.zero_lt_one ?_; conv => whnf) | (refine And.intro (Nat.succ_pos _) ?_; conv => whnf) | (refine call_same (kW) rfl ?_; conv => whnf) | (refine call_same (kD) rfl ?_; conv => whnf) | (refine call_same (kN) rfl ?_; conv => whnf) | (refine call_same (kY) rfl ?_; conv => whnf) | (refine call_same (lYb) rfl ?_; conv => whnf) | (refine And.intro (by first | decide | assumption | omega | (simp; done) | (simp; omega)) ?_; conv => whnf) | (rw [bne_self_eq_false]; conv => whnf) | (rw [wA]; conv => whnf) | (rw [ww]; conv => whnf) | (rw [wd]; conv => whnf) | (rw [wn]; conv => whnf) | (rw [wy]; conv => whnf) | (rw [beq_self_eq_true]; conv => whnf) | (rw [hB]; conv => whnf) | (rw [hc]; conv => whnf) | fail
            refine Ent.of_check ?_ rfl
            conv => whnf
            (iterate 3 ((all_goals try (conv => whnf)); (repeat' first | exact True.intro | (refine And.intro ?_ ?_) | rfl | exact fun _ h => h | exact .inl rfl | exact none_some | exact .inr ⟨rfl, rfl, fun _ _ => rfl⟩ | exact .inr ⟨rfl, rfl, lt1 rfl⟩ | exact .inr ⟨rfl, rfl, lt2 rfl rfl⟩ | exact .inr ⟨rfl, rfl, lt3 rfl rfl rfl⟩ | fail)))
          · repeat' first | (refine RegP.enter ?_; conv => whnf) | (refine DrawP.range (by kernel_rfl) ?_; conv => whnf) | (refine BuildP.frz ⟨rfl, ?_⟩; conv => whnf) | (refine BoxP.row ?_; conv => whnf) | (refine And.intro Nat.zero_lt_one ?_; conv => whnf) | (refine And.intro (Nat.succ_pos _) ?_; conv => whnf) | (refine call_same (kW) rfl ?_; conv => whnf) | (refine call_same (kD) rfl ?_; conv => whnf) | (refine call_same (kN) rfl ?_; conv => whnf) | (refine call_same (kY) rfl ?_; conv => whnf) | (refine call_same (lYb) rfl ?_; conv => whnf) | (refine And.intro (by first | decide | assumption | omega | (simp; done) | (simp; omega)) ?_; conv => whnf) | (rw [bne_self_eq_false]; conv => whnf) | (rw [wA]; conv => whnf) | (rw [ww]; conv => whnf) | (rw [wd]; conv => whnf) | (rw [wn]; conv => whnf) | (rw [wy]; conv => whnf) | (rw [beq_self_eq_true]; conv => whnf) | (rw [hB]; conv => whnf) | fail
            refine Ent.of_check ?_ rfl
            conv => whnf
            (iterate 3 ((all_goals try (conv => whnf)); (repeat' first | exact True.intro | (refine And.intro ?_ ?_) | rfl | exact fun _ h => h | exact .inl rfl | exact none_some | exact .inr ⟨rfl, rfl, fun _ _ => rfl⟩ | exact .inr ⟨rfl, rfl, lt1 rfl⟩ | exact .inr ⟨rfl, rfl, lt2 rfl rfl⟩ | exact .inr ⟨rfl, rfl, lt3 rfl rfl rfl⟩ | fail)))
end Go.Eng

/- Dates0: an engine for the program's code, and walks of its functions (Dl Da Db). -/
import Derived.Test.YtlcepambcoobgaaGreatDoorEng12
import Derived.Test.YtlcepambcoobgaaGreatDoorEng25
/- Dates: the plain law of the calendar. -/
namespace Go.Eng
/-- The first day of a year of an age of 400 years. -/
def calS (y : Nat) : Nat := 365 * y + y / 4 - y / 100 + y / 400
def calG (x : Nat) : Nat := x - x / 1460 + x / 36524 - x / 146096
def calY (x : Nat) : Nat := calG x / 365
def calD (x : Nat) : Nat := x - (365 * calY x + calY x / 4 - calY x / 100)
def monD (d : Nat) : Nat := (5 * d + 2) / 153
def domD (d : Nat) : Nat := d - (153 * monD d + 2) / 5
theorem cal_ends : ∀ y, y < 400 → calY (calS y) = y ∧ calY (calS (y + 1) - 1) = y ∧ (calS (y + 1) = calS y + 365 ∨ calS (y + 1) = calS y + 366) := by decide +kernel
theorem mon_next : ∀ d, d < 365 → (monD (d + 1) = monD d ∧ domD (d + 1) = domD d + 1) ∨ (monD (d + 1) = monD d + 1 ∧ domD (d + 1) = 0 ∧ 27 ≤ domD d ∧ (monD d = 9 → domD d = 30)) := by decide +kernel
theorem mon_bd : ∀ d, d < 366 → monD d ≤ 11 ∧ domD d ≤ 30 := by decide +kernel
theorem calG_mono {x : Nat} (h : x < 146096) : calG x ≤ calG (x + 1) := by unfold calG; omega
theorem calY_mono {x : Nat} : ∀ (k : Nat), x + k ≤ 146096 → calY x ≤ calY (x + k)
  | 0, _ => Nat.le_refl _
  | k + 1, h => Nat.le_trans (calY_mono k (by omega)) (Nat.div_le_div_right (calG_mono (x := x + k) (by omega)))
theorem cal_find : ∀ (n x : Nat), x < calS n → ∃ y, y < n ∧ calS y ≤ x ∧ x < calS (y + 1)
  | 0, x, h => by simp [calS] at h
  | n + 1, x, h => by
    by_cases h' : x < calS n
    · obtain ⟨y, h1, h2⟩ := cal_find n x h'
      exact ⟨y, by omega, h2⟩
    · exact ⟨n, by omega, by omega, h⟩
theorem cal_at {x : Nat} (h : x < 146097) : ∃ y, y < 400 ∧ calY x = y ∧ calS y ≤ x ∧ x < calS (y + 1) ∧ calD x = x - calS y := by
  obtain ⟨y, h1, h2, h3⟩ := cal_find 400 x h
  obtain ⟨e1, e2, e3⟩ := cal_ends y h1
  have a : y ≤ calY x := by
    have := calY_mono (x := calS y) (x - calS y) (by omega)
    rw [e1, show calS y + (x - calS y) = x by omega] at this
    exact this
  have hS : calS (y + 1) ≤ 146097 := by
    have : y / 400 = 0 := by omega
    unfold calS; omega
  have b : calY x ≤ y := by
    have := calY_mono (x := x) (calS (y + 1) - 1 - x) (by omega)
    rw [show x + (calS (y + 1) - 1 - x) = calS (y + 1) - 1 by omega, e2] at this
    exact this
  have e : calY x = y := by omega
  refine ⟨y, h1, e, h2, h3, ?_⟩
  unfold calD
  rw [e]
  unfold calS
  omega
/-- A day of the age: its year, its month from March on, its day. -/
theorem cal_bd {x : Nat} (h : x < 146097) : calY x < 400 ∧ calD x < 366 := by
  obtain ⟨y, h1, h2, h3, h4, h5⟩ := cal_at h
  obtain ⟨-, -, e3⟩ := cal_ends y h1
  omega
theorem cal_next {x : Nat} (h : x < 146096) : (calY (x + 1) = calY x ∧ calD (x + 1) = calD x + 1 ∧ calD x < 365) ∨ (calY (x + 1) = calY x + 1 ∧ calD (x + 1) = 0 ∧ (calD x = 364 ∨ calD x = 365)) := by
  obtain ⟨y, h1, h2, h3, h4, h5⟩ := cal_at (x := x) (by omega)
  obtain ⟨z, g1, g2, g3, g4, g5⟩ := cal_at (x := x + 1) (by omega)
  obtain ⟨-, -, e3⟩ := cal_ends y h1
  obtain ⟨-, -, e4⟩ := cal_ends z g1
  have hm := calY_mono (x := x) 1 (by omega)
  rw [h2, g2] at hm
  by_cases hz : z = y
  · subst hz
    left
    omega
  · have : calS (y + 1) ≤ calS z := by
      have key : ∀ k, y + 1 + k < 401 → calS (y + 1) ≤ calS (y + 1 + k) := by
        intro k
        induction k with
        | zero => intro _; exact Nat.le_refl _
        | succ k ih =>
          intro hk
          have := ih (by omega)
          have := (cal_ends (y + 1 + k) (by omega)).2.2
          have e : y + 1 + (k + 1) = y + 1 + k + 1 := by omega
          rw [e]
          omega
      have := key (z - (y + 1)) (by omega)
      rw [show y + 1 + (z - (y + 1)) = z by omega] at this
      exact this
    have hz1 : z = y + 1 := by
      by_cases hz2 : z = y + 1
      · exact hz2
      · have key : ∀ k, y + 2 + k < 401 → calS (y + 2) ≤ calS (y + 2 + k) := by
          intro k
          induction k with
          | zero => intro _; exact Nat.le_refl _
          | succ k ih =>
            intro hk
            have := ih (by omega)
            have := (cal_ends (y + 2 + k) (by omega)).2.2
            have e : y + 2 + (k + 1) = y + 2 + k + 1 := by omega
            rw [e]
            omega
        have h' := key (z - (y + 2)) (by omega)
        rw [show y + 2 + (z - (y + 2)) = z by omega] at h'
        have := (cal_ends (y + 1) (by omega)).2.2
        rw [show y + 1 + 1 = y + 2 by omega] at this
        omega
    subst hz1
    right
    omega
/-! The parts of a date, of the days since 1970. -/
def eraX (d : Int) : Nat := ((d + 719468) % 146097).toNat
def yearM (d : Int) : Int := (calY (eraX d) : Int) + 400 * ((d + 719468) / 146097) + (if 9 < monD (calD (eraX d)) + 0 then 1 else 0)
def monthM (d : Int) : Int := if 9 < monD (calD (eraX d)) then (monD (calD (eraX d)) : Int) - 9 else (monD (calD (eraX d)) : Int) + 3
def dayM (d : Int) : Int := (domD (calD (eraX d)) : Int) + 1
theorem eraX_lt (d : Int) : eraX d < 146097 := by unfold eraX; omega
theorem date_bd (d : Int) : 1 ≤ dayM d ∧ dayM d ≤ 31 ∧ 1 ≤ monthM d ∧ monthM d ≤ 12 := by
  have h := cal_bd (eraX_lt d)
  have hm := mon_bd _ h.2
  unfold dayM monthM
  split <;> omega
theorem date_next (d : Int) : (dayM (d + 1) = dayM d + 1 ∧ monthM (d + 1) = monthM d ∧ yearM (d + 1) = yearM d) ∨ (dayM (d + 1) = 1 ∧ 28 ≤ dayM d ∧ monthM (d + 1) = monthM d + 1 ∧ yearM (d + 1) = yearM d) ∨ (dayM (d + 1) = 1 ∧ dayM d = 31 ∧ monthM d = 12 ∧ monthM (d + 1) = 1 ∧ yearM (d + 1) = yearM d + 1) := by
  have hx := eraX_lt d
  have hb := cal_bd hx
  have hend : monD 364 = 11 ∧ domD 364 = 27 ∧ monD 365 = 11 ∧ domD 365 = 28 ∧ monD 0 = 0 ∧ domD 0 = 0 := by decide
  have hlast : calY 146096 = 399 ∧ calD 146096 = 365 ∧ calY 0 = 0 ∧ calD 0 = 0 := by decide +kernel
  by_cases h : eraX d < 146096
  · have e1 : eraX (d + 1) = eraX d + 1 := by unfold eraX at *; omega
    have e2 : (d + 1 + 719468) / 146097 = (d + 719468) / 146097 := by unfold eraX at *; omega
    unfold dayM monthM yearM
    rw [e1, e2]
    rcases cal_next h with ⟨h1, h2, h3⟩ | ⟨h1, h2, h3⟩
    · rw [h1, h2]
      have hm := mon_bd _ hb.2
      rcases mon_next _ h3 with ⟨h4, h5⟩ | ⟨h4, h5, h6, h7⟩
      · left
        rw [h4, h5]
        simp
      · rw [h4, h5]
        right
        by_cases h9 : monD (calD (eraX d)) = 9
        · right
          rw [h9, h7 h9]
          simp
        · left
          by_cases h10 : 9 < monD (calD (eraX d))
          · rw [if_pos (by omega), if_pos h10, if_pos (by omega), if_pos (by omega)]; omega
          · rw [if_neg (by omega), if_neg h10, if_neg (by omega), if_neg (by omega)]; omega
    · right; left
      rw [h1, h2]
      obtain ⟨a1, a2, a3, a4, a5, a6⟩ := hend
      rcases h3 with h3 | h3 <;> rw [h3] <;> simp [a1, a2, a3, a4, a5, a6] <;> omega
  · have e0 : eraX d = 146096 := by omega
    have e1 : eraX (d + 1) = 0 := by unfold eraX at *; omega
    have e2 : (d + 1 + 719468) / 146097 = (d + 719468) / 146097 + 1 := by unfold eraX at *; omega
    unfold dayM monthM yearM
    rw [e1, e2, e0]
    obtain ⟨a1, a2, a3, a4, a5, a6⟩ := hend
    obtain ⟨b1, b2, b3, b4⟩ := hlast
    right; left
    rw [b1, b2, b3, b4]
    simp [a3, a4, a5, a6]
    omega
theorem year_mono (d : Int) : ∀ k : Nat, yearM d ≤ yearM (d + k)
  | 0 => by simp
  | k + 1 => by
    have h := year_mono d k
    have := date_next (d + k)
    rw [show d + ((k + 1 : Nat) : Int) = d + k + 1 by omega]
    omega
theorem year_le {d e : Int} (h : d ≤ e) : yearM d ≤ yearM e := by
  have := year_mono d (e - d).toNat
  rw [show d + ((e - d).toNat : Int) = e by omega] at this
  exact this
end Go.Eng
namespace Go.Eng
open Go.Proofs
set_option maxRecDepth 10000
theorem tdiv_floor {a b : Int} (hb : 0 < b) : (a.tmod b < 0 → a.tdiv b - 1 = a / b ∧ a.tmod b + b = a % b) ∧ (¬ a.tmod b < 0 → a.tdiv b = a / b ∧ a.tmod b = a % b) := by
  have h1 := Int.tdiv_mul_add_tmod a b
  have h2 := Int.lt_tmod_of_pos a hb
  have h3 := Int.tmod_lt_of_pos a hb
  have h4 := Int.emod_add_mul_ediv a b
  have h5 := Int.emod_nonneg a (by omega : b ≠ 0)
  have h6 := Int.emod_lt_of_pos a hb
  have key : ∀ q r : Int, q * b + r = a → 0 ≤ r → r < b → q = a / b ∧ r = a % b := by
    intro q r e1 e2 e3
    have : a / b = q := by
      rw [← e1, Int.add_comm, Int.add_mul_ediv_right _ _ (by omega : b ≠ 0), Int.ediv_eq_zero_of_lt e2 e3]
      omega
    refine ⟨this.symm, ?_⟩
    rw [this, Int.mul_comm] at h4
    omega
  constructor
  · intro h
    refine key _ _ ?_ (by omega) (by omega)
    rw [Int.sub_mul]; omega
  · intro h
    exact key _ _ h1 (by omega) h3
theorem down_ok (a b : Int) (ha : inInt a = true) (hb : 0 < b) (hb' : b < 9223372036854775807) : PSpec cxA 425 [.int a, .int b] (.ret (.tup [.int (a / b), .int (a % b)])) := by
  have hi := inInt_iff.1 ha
  have hq1 : (a.tdiv b).natAbs ≤ a.natAbs := by rw [Int.natAbs_tdiv]; exact Nat.div_le_self _ _
  have hr1 := Int.lt_tmod_of_pos a hb
  have hr2 := Int.tmod_lt_of_pos a hb
  obtain ⟨f1, f2⟩ := tdiv_floor (a := a) hb
  have hq2 : a.tdiv b ≤ 9223372036854775807 := by
    by_cases h0 : 0 ≤ a
    · omega
    · have h1 : (-a).tdiv b = -(a.tdiv b) := Int.neg_tdiv a b
      have := Int.tdiv_nonneg (a := -a) (b := b) (by omega) (by omega)
      omega
  have hq3 : -9223372036854775808 ≤ a / b := by
    refine Classical.byContradiction fun h => ?_
    have h2 : (a / b + 1) * b ≤ (-9223372036854775808) * b := Int.mul_le_mul_of_nonneg_right (by omega) (by omega)
    have h3 := Int.lt_ediv_add_one_mul_self a hb
    omega
  have w1 : IntKind.i64.wrap (a.tdiv b) = a.tdiv b := wrap64 (by omega) (by omega)
  refine PSpec.of_WC cxA_ok Tryz.func425 rfl Tryz.call425 (Nat.le_of_ble_eq_true rfl) (g := 1) ?_
  conv => whnf
  repeat' first | (refine RegP.enter ?_; conv => whnf) | (refine DrawP.range (by kernel_rfl) ?_; conv => whnf) | (refine BuildP.frz ⟨rfl, ?_⟩; conv => whnf) | (refine BoxP.row ?_; conv => whnf) | (refine And.intro Nat.zero_lt_one ?_; conv => whnf) | (refine And.intro (Nat.succ_pos _) ?_; conv => whnf) | (refine And.intro (by first | decide | assumption | omega | (simp; done) | (simp; omega)) ?_; conv => whnf) | fail
  refine br (fun h => ?_) (fun h => ?_)
  · have h' := of_decide_eq_true h
    obtain ⟨e1, e2⟩ := f1 h'
    try rw [h]
    conv => whnf
    repeat' first | (refine RegP.enter ?_; conv => whnf) | (refine DrawP.range (by kernel_rfl) ?_; conv => whnf) | (refine BuildP.frz ⟨rfl, ?_⟩; conv => whnf) | (refine BoxP.row ?_; conv => whnf) | (refine And.intro Nat.zero_lt_one ?_; conv => whnf) | (refine And.intro (Nat.succ_pos _) ?_; conv => whnf) | (refine And.intro (by first | decide | assumption | omega | (simp; done) | (simp; omega)) ?_; conv => whnf) | fail
    refine Ent.of_check ?_ rfl
    conv => whnf
    (iterate 3 ((all_goals try (conv => whnf)); (repeat' first | exact True.intro | (refine And.intro ?_ ?_) | rfl | exact fun _ h => h | exact .inl rfl | exact none_some | exact .inr ⟨rfl, rfl, fun _ _ => rfl⟩ | exact .inr ⟨rfl, rfl, lt1 rfl⟩ | exact .inr ⟨rfl, rfl, lt2 rfl rfl⟩ | exact .inr ⟨rfl, rfl, lt3 rfl rfl rfl⟩ | fail)))
    · rw [w1, e1]; exact wrap64 (by omega) (by omega)
    · rw [e2]; have := Int.emod_nonneg a (by omega : b ≠ 0); have := Int.emod_lt_of_pos a hb; exact wrap64 (by omega) (by omega)
  · have h' := of_decide_eq_false h
    obtain ⟨e1, e2⟩ := f2 h'
    try rw [h]
    conv => whnf
    repeat' first | (refine RegP.enter ?_; conv => whnf) | (refine DrawP.range (by kernel_rfl) ?_; conv => whnf) | (refine BuildP.frz ⟨rfl, ?_⟩; conv => whnf) | (refine BoxP.row ?_; conv => whnf) | (refine And.intro Nat.zero_lt_one ?_; conv => whnf) | (refine And.intro (Nat.succ_pos _) ?_; conv => whnf) | (refine And.intro (by first | decide | assumption | omega | (simp; done) | (simp; omega)) ?_; conv => whnf) | fail
    refine Ent.of_check ?_ rfl
    conv => whnf
    (iterate 3 ((all_goals try (conv => whnf)); (repeat' first | exact True.intro | (refine And.intro ?_ ?_) | rfl | exact fun _ h => h | exact .inl rfl | exact none_some | exact .inr ⟨rfl, rfl, fun _ _ => rfl⟩ | exact .inr ⟨rfl, rfl, lt1 rfl⟩ | exact .inr ⟨rfl, rfl, lt2 rfl rfl⟩ | exact .inr ⟨rfl, rfl, lt3 rfl rfl rfl⟩ | fail)))
    · rw [w1, e1]
    · exact e2
end Go.Eng
namespace Go.Eng
open Go.Proofs
set_option maxRecDepth 10000
def hourM (a : Int) : Int := a % 86400000 / 3600000
def minuteM (a : Int) : Int := a % 86400000 / 60000 % 60
def secondM (a : Int) : Int := a % 86400000 / 1000 % 60
def milliM (a : Int) : Int := a % 86400000 % 1000
def weekdayM (a : Int) : Int := (a / 86400000 + 4) % 7
def yearA (a : Int) : Int := yearM (a / 86400000)
def monthA (a : Int) : Int := monthM (a / 86400000)
def dayA (a : Int) : Int := dayM (a / 86400000)
theorem w12 (n : Int) (h1 : -1000000000000 ≤ n) (h2 : n ≤ 1000000000000) : IntKind.i64.wrap n = n := wrap64 (by omega) (by omega)
theorem f15 (X : Nat) (h : X < 146097) : IntKind.i64.wrap (Int.tdiv (IntKind.i64.wrap (IntKind.i64.wrap (IntKind.i64.wrap ((X : Int) - IntKind.i64.wrap (Int.tdiv (X : Int) 1460)) + IntKind.i64.wrap (Int.tdiv (X : Int) 36524)) - IntKind.i64.wrap (Int.tdiv (X : Int) 146096))) 365) = ((calY X : Nat) : Int) := by
  rw [show Int.tdiv (X : Int) 1460 = ((X / 1460 : Nat) : Int) from rfl, show Int.tdiv (X : Int) 36524 = ((X / 36524 : Nat) : Int) from rfl, show Int.tdiv (X : Int) 146096 = ((X / 146096 : Nat) : Int) from rfl]
  rw [w12 ((X / 1460 : Nat) : Int) (by omega) (by omega), w12 ((X / 36524 : Nat) : Int) (by omega) (by omega), w12 ((X / 146096 : Nat) : Int) (by omega) (by omega)]
  rw [w12 ((X : Int) - ((X / 1460 : Nat) : Int)) (by omega) (by omega), w12 ((X : Int) - ((X / 1460 : Nat) : Int) + ((X / 36524 : Nat) : Int)) (by omega) (by omega), w12 ((X : Int) - ((X / 1460 : Nat) : Int) + ((X / 36524 : Nat) : Int) - ((X / 146096 : Nat) : Int)) (by omega) (by omega)]
  rw [show (X : Int) - ((X / 1460 : Nat) : Int) + ((X / 36524 : Nat) : Int) - ((X / 146096 : Nat) : Int) = ((calG X : Nat) : Int) by unfold calG; omega]
  rw [show Int.tdiv ((calG X : Nat) : Int) 365 = ((calG X / 365 : Nat) : Int) from rfl]
  have := (cal_bd h).1
  unfold calY at *
  exact w12 _ (by omega) (by omega)
theorem f16 (X : Nat) (h : X < 146097) : IntKind.i64.wrap ((X : Int) - IntKind.i64.wrap (IntKind.i64.wrap (IntKind.i64.wrap (365 * ((calY X : Nat) : Int)) + IntKind.i64.wrap (Int.tdiv ((calY X : Nat) : Int) 4)) - IntKind.i64.wrap (Int.tdiv ((calY X : Nat) : Int) 100))) = ((calD X : Nat) : Int) := by
  have hY := (cal_bd h).1
  have hD : (X : Int) - (365 * ((calY X : Nat) : Int) + ((calY X / 4 : Nat) : Int) - ((calY X / 100 : Nat) : Int)) = ((calD X : Nat) : Int) := by
    obtain ⟨y, h1, h2, h3, h4, h5⟩ := cal_at h
    unfold calD
    rw [h2]
    unfold calS at h3
    omega
  have hd := (cal_bd h).2
  generalize calY X = Y at *
  rw [show Int.tdiv (Y : Int) 4 = ((Y / 4 : Nat) : Int) from rfl, show Int.tdiv (Y : Int) 100 = ((Y / 100 : Nat) : Int) from rfl]
  rw [w12 (365 * (Y : Int)) (by omega) (by omega), w12 ((Y / 4 : Nat) : Int) (by omega) (by omega), w12 ((Y / 100 : Nat) : Int) (by omega) (by omega), w12 (365 * (Y : Int) + ((Y / 4 : Nat) : Int)) (by omega) (by omega), w12 (365 * (Y : Int) + ((Y / 4 : Nat) : Int) - ((Y / 100 : Nat) : Int)) (by omega) (by omega), hD]
  exact w12 _ (by omega) (by omega)
theorem f17 (D : Nat) (h : D < 366) : IntKind.i64.wrap (Int.tdiv (IntKind.i64.wrap (IntKind.i64.wrap (5 * (D : Int)) + 2)) 153) = ((monD D : Nat) : Int) := by
  rw [w12 (5 * (D : Int)) (by omega) (by omega), w12 (5 * (D : Int) + 2) (by omega) (by omega), show 5 * (D : Int) + 2 = ((5 * D + 2 : Nat) : Int) by omega, show Int.tdiv ((5 * D + 2 : Nat) : Int) 153 = (((5 * D + 2) / 153 : Nat) : Int) from rfl]
  unfold monD
  exact w12 _ (by omega) (by omega)
theorem f18 (D : Nat) (h : D < 366) : IntKind.i64.wrap ((D : Int) - IntKind.i64.wrap (Int.tdiv (IntKind.i64.wrap (IntKind.i64.wrap (153 * ((monD D : Nat) : Int)) + 2)) 5)) = ((domD D : Nat) : Int) := by
  have hm := mon_bd D h
  have hle : (153 * monD D + 2) / 5 ≤ D := by unfold monD; omega
  unfold domD at *
  generalize monD D = M at *
  rw [w12 (153 * (M : Int)) (by omega) (by omega), w12 (153 * (M : Int) + 2) (by omega) (by omega), show 153 * (M : Int) + 2 = ((153 * M + 2 : Nat) : Int) by omega, show Int.tdiv ((153 * M + 2 : Nat) : Int) 5 = (((153 * M + 2) / 5 : Nat) : Int) from rfl, w12 (((153 * M + 2) / 5 : Nat) : Int) (by omega) (by omega), show (D : Int) - (((153 * M + 2) / 5 : Nat) : Int) = ((D - (153 * M + 2) / 5 : Nat) : Int) by omega]
  exact w12 _ (by omega) (by omega)
theorem dW {x b : Int} (h0 : 0 ≤ x) (h1 : x ≤ 1000000000000) (hb : 0 < b) : IntKind.i64.wrap (x.tdiv b) = x / b := by
  rw [Int.tdiv_eq_ediv_of_nonneg h0]
  have : x / b ≤ x := Int.ediv_le_self b h0
  have : 0 ≤ x / b := Int.ediv_nonneg h0 (by omega)
  exact w12 _ (by omega) (by omega)
theorem mW {x b : Int} (h0 : 0 ≤ x) : x.tmod b = x % b := Int.tmod_eq_emod_of_nonneg h0
theorem date_hour (a : Int) (ha : inInt a = true) : PSpec cxA 413 [.str oHour, .int a] (.ret (.int (hourM a))) := by
  have h0 : 0 ≤ a % 86400000 := Int.emod_nonneg _ (by decide)
  have h1 : a % 86400000 ≤ 1000000000000 := by omega
  generalize hr : hourM a = r
  refine PSpec.of_WC cxA_ok Tryz.func413 rfl Tryz.call413 (Nat.le_of_ble_eq_true rfl) (g := 1) ?_
  conv => whnf
  repeat' first | (refine RegP.enter ?_; conv => whnf) | (refine DrawP.range (by kernel_rfl) ?_; conv => whnf) | (refine BuildP.frz ⟨rfl, ?_⟩; conv => whnf) | (refine BoxP.row ?_; conv => whnf) | (refine And.intro Nat.zero_lt_one ?_; conv => whnf) | (refine And.intro (Nat.succ_pos _) ?_; conv => whnf) | (refine call_same (down_ok a 86400000 ha (by decide) (by decide)) rfl ?_; conv => whnf) | (refine And.intro (by first | decide | assumption | omega | (simp; done) | (simp; omega)) ?_; conv => whnf) | fail
  refine Ent.of_check ?_ rfl
  conv => whnf
  (iterate 3 ((all_goals try (conv => whnf)); (repeat' first | exact True.intro | (refine And.intro ?_ ?_) | rfl | exact fun _ h => h | exact .inl rfl | exact none_some | exact .inr ⟨rfl, rfl, fun _ _ => rfl⟩ | exact .inr ⟨rfl, rfl, lt1 rfl⟩ | exact .inr ⟨rfl, rfl, lt2 rfl rfl⟩ | exact .inr ⟨rfl, rfl, lt3 rfl rfl rfl⟩ | fail)))
  all_goals (rw [← hr]; exact dW h0 h1 (by decide))
theorem date_minute (a : Int) (ha : inInt a = true) : PSpec cxA 413 [.str oMinute, .int a] (.ret (.int (minuteM a))) := by
  have h0 : 0 ≤ a % 86400000 := Int.emod_nonneg _ (by decide)
  have h1 : a % 86400000 ≤ 1000000000000 := by omega
  generalize hr : minuteM a = r
  refine PSpec.of_WC cxA_ok Tryz.func413 rfl Tryz.call413 (Nat.le_of_ble_eq_true rfl) (g := 1) ?_
  conv => whnf
  repeat' first | (refine RegP.enter ?_; conv => whnf) | (refine DrawP.range (by kernel_rfl) ?_; conv => whnf) | (refine BuildP.frz ⟨rfl, ?_⟩; conv => whnf) | (refine BoxP.row ?_; conv => whnf) | (refine And.intro Nat.zero_lt_one ?_; conv => whnf) | (refine And.intro (Nat.succ_pos _) ?_; conv => whnf) | (refine call_same (down_ok a 86400000 ha (by decide) (by decide)) rfl ?_; conv => whnf) | (refine And.intro (by first | decide | assumption | omega | (simp; done) | (simp; omega)) ?_; conv => whnf) | fail
  refine Ent.of_check ?_ rfl
  conv => whnf
  (iterate 3 ((all_goals try (conv => whnf)); (repeat' first | exact True.intro | (refine And.intro ?_ ?_) | rfl | exact fun _ h => h | exact .inl rfl | exact none_some | exact .inr ⟨rfl, rfl, fun _ _ => rfl⟩ | exact .inr ⟨rfl, rfl, lt1 rfl⟩ | exact .inr ⟨rfl, rfl, lt2 rfl rfl⟩ | exact .inr ⟨rfl, rfl, lt3 rfl rfl rfl⟩ | fail)))
  all_goals (rw [← hr]; exact by rw [dW h0 h1 (by decide)]; exact mW (Int.ediv_nonneg h0 (by decide)))
theorem date_second (a : Int) (ha : inInt a = true) : PSpec cxA 413 [.str oSecond, .int a] (.ret (.int (secondM a))) := by
  have h0 : 0 ≤ a % 86400000 := Int.emod_nonneg _ (by decide)
  have h1 : a % 86400000 ≤ 1000000000000 := by omega
  generalize hr : secondM a = r
  refine PSpec.of_WC cxA_ok Tryz.func413 rfl Tryz.call413 (Nat.le_of_ble_eq_true rfl) (g := 1) ?_
  conv => whnf
  repeat' first | (refine RegP.enter ?_; conv => whnf) | (refine DrawP.range (by kernel_rfl) ?_; conv => whnf) | (refine BuildP.frz ⟨rfl, ?_⟩; conv => whnf) | (refine BoxP.row ?_; conv => whnf) | (refine And.intro Nat.zero_lt_one ?_; conv => whnf) | (refine And.intro (Nat.succ_pos _) ?_; conv => whnf) | (refine call_same (down_ok a 86400000 ha (by decide) (by decide)) rfl ?_; conv => whnf) | (refine And.intro (by first | decide | assumption | omega | (simp; done) | (simp; omega)) ?_; conv => whnf) | fail
  refine Ent.of_check ?_ rfl
  conv => whnf
  (iterate 3 ((all_goals try (conv => whnf)); (repeat' first | exact True.intro | (refine And.intro ?_ ?_) | rfl | exact fun _ h => h | exact .inl rfl | exact none_some | exact .inr ⟨rfl, rfl, fun _ _ => rfl⟩ | exact .inr ⟨rfl, rfl, lt1 rfl⟩ | exact .inr ⟨rfl, rfl, lt2 rfl rfl⟩ | exact .inr ⟨rfl, rfl, lt3 rfl rfl rfl⟩ | fail)))
  all_goals (rw [← hr]; exact by rw [dW h0 h1 (by decide)]; exact mW (Int.ediv_nonneg h0 (by decide)))
theorem date_milli (a : Int) (ha : inInt a = true) : PSpec cxA 413 [.str oMilli, .int a] (.ret (.int (milliM a))) := by
  have h0 : 0 ≤ a % 86400000 := Int.emod_nonneg _ (by decide)
  have h1 : a % 86400000 ≤ 1000000000000 := by omega
  generalize hr : milliM a = r
  refine PSpec.of_WC cxA_ok Tryz.func413 rfl Tryz.call413 (Nat.le_of_ble_eq_true rfl) (g := 1) ?_
  conv => whnf
  repeat' first | (refine RegP.enter ?_; conv => whnf) | (refine DrawP.range (by kernel_rfl) ?_; conv => whnf) | (refine BuildP.frz ⟨rfl, ?_⟩; conv => whnf) | (refine BoxP.row ?_; conv => whnf) | (refine And.intro Nat.zero_lt_one ?_; conv => whnf) | (refine And.intro (Nat.succ_pos _) ?_; conv => whnf) | (refine call_same (down_ok a 86400000 ha (by decide) (by decide)) rfl ?_; conv => whnf) | (refine And.intro (by first | decide | assumption | omega | (simp; done) | (simp; omega)) ?_; conv => whnf) | fail
  refine Ent.of_check ?_ rfl
  conv => whnf
  (iterate 3 ((all_goals try (conv => whnf)); (repeat' first | exact True.intro | (refine And.intro ?_ ?_) | rfl | exact fun _ h => h | exact .inl rfl | exact none_some | exact .inr ⟨rfl, rfl, fun _ _ => rfl⟩ | exact .inr ⟨rfl, rfl, lt1 rfl⟩ | exact .inr ⟨rfl, rfl, lt2 rfl rfl⟩ | exact .inr ⟨rfl, rfl, lt3 rfl rfl rfl⟩ | fail)))
  all_goals (rw [← hr]; exact mW h0)
theorem date_weekday (a : Int) (ha : inInt a = true) : PSpec cxA 413 [.str oWeekday, .int a] (.ret (.int (weekdayM a))) := by
  have hi := inInt_iff.1 ha
  have hw : IntKind.i64.wrap (a / 86400000 + 4) = a / 86400000 + 4 := w12 _ (by omega) (by omega)
  have hD : inInt (a / 86400000 + 4) = true := inInt_iff.2 (by omega)
  generalize hr : weekdayM a = r
  refine PSpec.of_WC cxA_ok Tryz.func413 rfl Tryz.call413 (Nat.le_of_ble_eq_true rfl) (g := 1) ?_
  conv => whnf
  repeat' first | (refine RegP.enter ?_; conv => whnf) | (refine DrawP.range (by kernel_rfl) ?_; conv => whnf) | (refine BuildP.frz ⟨rfl, ?_⟩; conv => whnf) | (refine BoxP.row ?_; conv => whnf) | (refine And.intro Nat.zero_lt_one ?_; conv => whnf) | (refine And.intro (Nat.succ_pos _) ?_; conv => whnf) | (refine call_same (down_ok a 86400000 ha (by decide) (by decide)) rfl ?_; conv => whnf) | (refine call_same (down_ok (a / 86400000 + 4) 7 hD (by decide) (by decide)) rfl ?_; conv => whnf) | (refine And.intro (by first | decide | assumption | omega | (simp; done) | (simp; omega)) ?_; conv => whnf) | (rw [hw]; conv => whnf) | fail
  refine Ent.of_check ?_ rfl
  conv => whnf
  (iterate 3 ((all_goals try (conv => whnf)); (repeat' first | exact True.intro | (refine And.intro ?_ ?_) | rfl | exact fun _ h => h | exact .inl rfl | exact none_some | exact .inr ⟨rfl, rfl, fun _ _ => rfl⟩ | exact .inr ⟨rfl, rfl, lt1 rfl⟩ | exact .inr ⟨rfl, rfl, lt2 rfl rfl⟩ | exact .inr ⟨rfl, rfl, lt3 rfl rfl rfl⟩ | fail)))
  all_goals (exact hr)
theorem date_year (a : Int) (ha : inInt a = true) : PSpec cxA 413 [.str oYear, .int a] (.ret (.int (yearA a))) := by
  have hi := inInt_iff.1 ha
  have hw : IntKind.i64.wrap (a / 86400000 + 719468) = a / 86400000 + 719468 := w12 _ (by omega) (by omega)
  have hD : inInt (a / 86400000 + 719468) = true := inInt_iff.2 (by omega)
  have hX := eraX_lt (a / 86400000)
  have hx : (a / 86400000 + 719468) % 146097 = ((eraX (a / 86400000) : Nat) : Int) := by unfold eraX; omega
  have hA : -1000000000 ≤ (a / 86400000 + 719468) / 146097 ∧ (a / 86400000 + 719468) / 146097 ≤ 1000000000 := by omega
  have hY := (cal_bd hX).1
  have hd := (cal_bd hX).2
  have hm := mon_bd _ hd
  have hr : yearA a = (match decide (((monD (calD (eraX (a / 86400000))) : Nat) : Int) + 3 > 12) with | true => ((calY (eraX (a / 86400000)) : Nat) : Int) + 400 * ((a / 86400000 + 719468) / 146097) + 1 | false => ((calY (eraX (a / 86400000)) : Nat) : Int) + 400 * ((a / 86400000 + 719468) / 146097)) := by
    unfold yearA yearM
    by_cases h9 : 9 < monD (calD (eraX (a / 86400000)))
    · rw [decide_eq_true (by omega)]; rw [if_pos (by omega)]
    · rw [decide_eq_false (by omega)]; rw [if_neg (by omega)]; simp
  have g15 := f15 _ hX
  have g16 := f16 _ hX
  have g17 := f17 _ hd
  have g18 := f18 _ hd
  rw [hr]
  clear hr
  have g19 : IntKind.i64.wrap (((calY (eraX (a / 86400000)) : Nat) : Int) + IntKind.i64.wrap (400 * ((a / 86400000 + 719468) / 146097))) = ((calY (eraX (a / 86400000)) : Nat) : Int) + 400 * ((a / 86400000 + 719468) / 146097) := by
    rw [w12 (400 * ((a / 86400000 + 719468) / 146097)) (by omega) (by omega)]; exact w12 _ (by omega) (by omega)
  have g20 : IntKind.i64.wrap (((monD (calD (eraX (a / 86400000))) : Nat) : Int) + 3) = ((monD (calD (eraX (a / 86400000))) : Nat) : Int) + 3 := w12 _ (by omega) (by omega)
  have g22 : IntKind.i64.wrap (((monD (calD (eraX (a / 86400000))) : Nat) : Int) + 3 - 12) = ((monD (calD (eraX (a / 86400000))) : Nat) : Int) + 3 - 12 := w12 _ (by omega) (by omega)
  have g23 : IntKind.i64.wrap (((calY (eraX (a / 86400000)) : Nat) : Int) + 400 * ((a / 86400000 + 719468) / 146097) + 1) = ((calY (eraX (a / 86400000)) : Nat) : Int) + 400 * ((a / 86400000 + 719468) / 146097) + 1 := w12 _ (by omega) (by omega)
  have g29 : IntKind.i64.wrap (((domD (calD (eraX (a / 86400000))) : Nat) : Int) + 1) = ((domD (calD (eraX (a / 86400000))) : Nat) : Int) + 1 := w12 _ (by omega) (by omega)
  have hdn := down_ok (a / 86400000 + 719468) 146097 hD (by decide) (by decide)
  rw [hx] at hdn
  generalize (a / 86400000 + 719468) / 146097 = age at *
  generalize calY (eraX (a / 86400000)) = Y at *
  generalize hdd : calD (eraX (a / 86400000)) = dd at *
  generalize hMM : monD dd = M at *
  generalize hdm : domD dd = dm at *
  refine PSpec.of_WC cxA_ok Tryz.func413 rfl Tryz.call413 (Nat.le_of_ble_eq_true rfl) (g := 1) ?_
  conv => whnf
  repeat' first | (refine RegP.enter ?_; conv => whnf) | (refine DrawP.range (by kernel_rfl) ?_; conv => whnf) | (refine BuildP.frz ⟨rfl, ?_⟩; conv => whnf) | (refine BoxP.row ?_; conv => whnf) | (refine And.intro Nat.zero_lt_one ?_; conv => whnf) | (refine And.intro (Nat.succ_pos _) ?_; conv => whnf) | (refine call_same (down_ok a 86400000 ha (by decide) (by decide)) rfl ?_; conv => whnf) | (refine call_same (hdn) rfl ?_; conv => whnf) | (refine And.intro (by first | decide | assumption | omega | (simp; done) | (simp; omega)) ?_; conv => whnf) | (rw [hw]; conv => whnf) | (rw [hx]; conv => whnf) | (rw [g15]; conv => whnf) | (rw [g16]; conv => whnf) | (rw [g17]; conv => whnf) | (rw [g18]; conv => whnf) | (rw [g19]; conv => whnf) | (rw [g20]; conv => whnf) | fail
  cases hg : decide ((M : Int) + 3 > 12)
  · conv => whnf
    repeat' first | (refine RegP.enter ?_; conv => whnf) | (refine DrawP.range (by kernel_rfl) ?_; conv => whnf) | (refine BuildP.frz ⟨rfl, ?_⟩; conv => whnf) | (refine BoxP.row ?_; conv => whnf) | (refine And.intro Nat.zero_lt_one ?_; conv => whnf) | (refine And.intro (Nat.succ_pos _) ?_; conv => whnf) | (refine And.intro (by first | decide | assumption | omega | (simp; done) | (simp; omega)) ?_; conv => whnf) | (rw [g29]; conv => whnf) | fail
    refine Ent.of_check ?_ rfl
    conv => whnf
    (iterate 3 ((all_goals try (conv => whnf)); (repeat' first | exact True.intro | (refine And.intro ?_ ?_) | rfl | exact fun _ h => h | exact .inl rfl | exact none_some | exact .inr ⟨rfl, rfl, fun _ _ => rfl⟩ | exact .inr ⟨rfl, rfl, lt1 rfl⟩ | exact .inr ⟨rfl, rfl, lt2 rfl rfl⟩ | exact .inr ⟨rfl, rfl, lt3 rfl rfl rfl⟩ | fail)))
  · conv => whnf
    repeat' first | (refine RegP.enter ?_; conv => whnf) | (refine DrawP.range (by kernel_rfl) ?_; conv => whnf) | (refine BuildP.frz ⟨rfl, ?_⟩; conv => whnf) | (refine BoxP.row ?_; conv => whnf) | (refine And.intro Nat.zero_lt_one ?_; conv => whnf) | (refine And.intro (Nat.succ_pos _) ?_; conv => whnf) | (refine And.intro (by first | decide | assumption | omega | (simp; done) | (simp; omega)) ?_; conv => whnf) | (rw [g22]; conv => whnf) | (rw [g23]; conv => whnf) | (rw [g29]; conv => whnf) | fail
    refine Ent.of_check ?_ rfl
    conv => whnf
    (iterate 3 ((all_goals try (conv => whnf)); (repeat' first | exact True.intro | (refine And.intro ?_ ?_) | rfl | exact fun _ h => h | exact .inl rfl | exact none_some | exact .inr ⟨rfl, rfl, fun _ _ => rfl⟩ | exact .inr ⟨rfl, rfl, lt1 rfl⟩ | exact .inr ⟨rfl, rfl, lt2 rfl rfl⟩ | exact .inr ⟨rfl, rfl, lt3 rfl rfl rfl⟩ | fail)))
theorem date_month (a : Int) (ha : inInt a = true) : PSpec cxA 413 [.str oMonth, .int a] (.ret (.int (monthA a))) := by
  have hi := inInt_iff.1 ha
  have hw : IntKind.i64.wrap (a / 86400000 + 719468) = a / 86400000 + 719468 := w12 _ (by omega) (by omega)
  have hD : inInt (a / 86400000 + 719468) = true := inInt_iff.2 (by omega)
  have hX := eraX_lt (a / 86400000)
  have hx : (a / 86400000 + 719468) % 146097 = ((eraX (a / 86400000) : Nat) : Int) := by unfold eraX; omega
  have hA : -1000000000 ≤ (a / 86400000 + 719468) / 146097 ∧ (a / 86400000 + 719468) / 146097 ≤ 1000000000 := by omega
  have hY := (cal_bd hX).1
  have hd := (cal_bd hX).2
  have hm := mon_bd _ hd
  have hr : monthA a = (match decide (((monD (calD (eraX (a / 86400000))) : Nat) : Int) + 3 > 12) with | true => ((monD (calD (eraX (a / 86400000))) : Nat) : Int) + 3 - 12 | false => ((monD (calD (eraX (a / 86400000))) : Nat) : Int) + 3) := by
    unfold monthA monthM
    by_cases h9 : 9 < monD (calD (eraX (a / 86400000)))
    · rw [decide_eq_true (by omega)]; rw [if_pos h9]; simp only []; omega
    · rw [decide_eq_false (by omega)]; rw [if_neg h9]
  have g15 := f15 _ hX
  have g16 := f16 _ hX
  have g17 := f17 _ hd
  have g18 := f18 _ hd
  rw [hr]
  clear hr
  have g19 : IntKind.i64.wrap (((calY (eraX (a / 86400000)) : Nat) : Int) + IntKind.i64.wrap (400 * ((a / 86400000 + 719468) / 146097))) = ((calY (eraX (a / 86400000)) : Nat) : Int) + 400 * ((a / 86400000 + 719468) / 146097) := by
    rw [w12 (400 * ((a / 86400000 + 719468) / 146097)) (by omega) (by omega)]; exact w12 _ (by omega) (by omega)
  have g20 : IntKind.i64.wrap (((monD (calD (eraX (a / 86400000))) : Nat) : Int) + 3) = ((monD (calD (eraX (a / 86400000))) : Nat) : Int) + 3 := w12 _ (by omega) (by omega)
  have g22 : IntKind.i64.wrap (((monD (calD (eraX (a / 86400000))) : Nat) : Int) + 3 - 12) = ((monD (calD (eraX (a / 86400000))) : Nat) : Int) + 3 - 12 := w12 _ (by omega) (by omega)
  have g23 : IntKind.i64.wrap (((calY (eraX (a / 86400000)) : Nat) : Int) + 400 * ((a / 86400000 + 719468) / 146097) + 1) = ((calY (eraX (a / 86400000)) : Nat) : Int) + 400 * ((a / 86400000 + 719468) / 146097) + 1 := w12 _ (by omega) (by omega)
  have g29 : IntKind.i64.wrap (((domD (calD (eraX (a / 86400000))) : Nat) : Int) + 1) = ((domD (calD (eraX (a / 86400000))) : Nat) : Int) + 1 := w12 _ (by omega) (by omega)
  have hdn := down_ok (a / 86400000 + 719468) 146097 hD (by decide) (by decide)
  rw [hx] at hdn
  generalize (a / 86400000 + 719468) / 146097 = age at *
  generalize calY (eraX (a / 86400000)) = Y at *
  generalize hdd : calD (eraX (a / 86400000)) = dd at *
  generalize hMM : monD dd = M at *
  generalize hdm : domD dd = dm at *
  refine PSpec.of_WC cxA_ok Tryz.func413 rfl Tryz.call413 (Nat.le_of_ble_eq_true rfl) (g := 1) ?_
  conv => whnf
  repeat' first | (refine RegP.enter ?_; conv => whnf) | (refine DrawP.range (by kernel_rfl) ?_; conv => whnf) | (refine BuildP.frz ⟨rfl, ?_⟩; conv => whnf) | (refine BoxP.row ?_; conv => whnf) | (refine And.intro Nat.zero_lt_one ?_; conv => whnf) | (refine And.intro (Nat.succ_pos _) ?_; conv => whnf) | (refine call_same (down_ok a 86400000 ha (by decide) (by decide)) rfl ?_; conv => whnf) | (refine call_same (hdn) rfl ?_; conv => whnf) | (refine And.intro (by first | decide | assumption | omega | (simp; done) | (simp; omega)) ?_; conv => whnf) | (rw [hw]; conv => whnf) | (rw [hx]; conv => whnf) | (rw [g15]; conv => whnf) | (rw [g16]; conv => whnf) | (rw [g17]; conv => whnf) | (rw [g18]; conv => whnf) | (rw [g19]; conv => whnf) | (rw [g20]; conv => whnf) | fail
  cases hg : decide ((M : Int) + 3 > 12)
  · conv => whnf
    repeat' first | (refine RegP.enter ?_; conv => whnf) | (refine DrawP.range (by kernel_rfl) ?_; conv => whnf) | (refine BuildP.frz ⟨rfl, ?_⟩; conv => whnf) | (refine BoxP.row ?_; conv => whnf) | (refine And.intro Nat.zero_lt_one ?_; conv => whnf) | (refine And.intro (Nat.succ_pos _) ?_; conv => whnf) | (refine And.intro (by first | decide | assumption | omega | (simp; done) | (simp; omega)) ?_; conv => whnf) | (rw [g29]; conv => whnf) | fail
    refine Ent.of_check ?_ rfl
    conv => whnf
    (iterate 3 ((all_goals try (conv => whnf)); (repeat' first | exact True.intro | (refine And.intro ?_ ?_) | rfl | exact fun _ h => h | exact .inl rfl | exact none_some | exact .inr ⟨rfl, rfl, fun _ _ => rfl⟩ | exact .inr ⟨rfl, rfl, lt1 rfl⟩ | exact .inr ⟨rfl, rfl, lt2 rfl rfl⟩ | exact .inr ⟨rfl, rfl, lt3 rfl rfl rfl⟩ | fail)))
  · conv => whnf
    repeat' first | (refine RegP.enter ?_; conv => whnf) | (refine DrawP.range (by kernel_rfl) ?_; conv => whnf) | (refine BuildP.frz ⟨rfl, ?_⟩; conv => whnf) | (refine BoxP.row ?_; conv => whnf) | (refine And.intro Nat.zero_lt_one ?_; conv => whnf) | (refine And.intro (Nat.succ_pos _) ?_; conv => whnf) | (refine And.intro (by first | decide | assumption | omega | (simp; done) | (simp; omega)) ?_; conv => whnf) | (rw [g22]; conv => whnf) | (rw [g23]; conv => whnf) | (rw [g29]; conv => whnf) | fail
    refine Ent.of_check ?_ rfl
    conv => whnf
    (iterate 3 ((all_goals try (conv => whnf)); (repeat' first | exact True.intro | (refine And.intro ?_ ?_) | rfl | exact fun _ h => h | exact .inl rfl | exact none_some | exact .inr ⟨rfl, rfl, fun _ _ => rfl⟩ | exact .inr ⟨rfl, rfl, lt1 rfl⟩ | exact .inr ⟨rfl, rfl, lt2 rfl rfl⟩ | exact .inr ⟨rfl, rfl, lt3 rfl rfl rfl⟩ | fail)))
theorem date_day (a : Int) (ha : inInt a = true) : PSpec cxA 413 [.str oDay, .int a] (.ret (.int (dayA a))) := by
  have hi := inInt_iff.1 ha
  have hw : IntKind.i64.wrap (a / 86400000 + 719468) = a / 86400000 + 719468 := w12 _ (by omega) (by omega)
  have hD : inInt (a / 86400000 + 719468) = true := inInt_iff.2 (by omega)
  have hX := eraX_lt (a / 86400000)
  have hx : (a / 86400000 + 719468) % 146097 = ((eraX (a / 86400000) : Nat) : Int) := by unfold eraX; omega
  have hA : -1000000000 ≤ (a / 86400000 + 719468) / 146097 ∧ (a / 86400000 + 719468) / 146097 ≤ 1000000000 := by omega
  have hY := (cal_bd hX).1
  have hd := (cal_bd hX).2
  have hm := mon_bd _ hd
  have hr : dayA a = (match decide (((monD (calD (eraX (a / 86400000))) : Nat) : Int) + 3 > 12) with | true => ((domD (calD (eraX (a / 86400000))) : Nat) : Int) + 1 | false => ((domD (calD (eraX (a / 86400000))) : Nat) : Int) + 1) := by
    unfold dayA dayM
    by_cases h9 : 9 < monD (calD (eraX (a / 86400000)))
    · rw [decide_eq_true (by omega)]
    · rw [decide_eq_false (by omega)]
  have g15 := f15 _ hX
  have g16 := f16 _ hX
  have g17 := f17 _ hd
  have g18 := f18 _ hd
  rw [hr]
  clear hr
  have g19 : IntKind.i64.wrap (((calY (eraX (a / 86400000)) : Nat) : Int) + IntKind.i64.wrap (400 * ((a / 86400000 + 719468) / 146097))) = ((calY (eraX (a / 86400000)) : Nat) : Int) + 400 * ((a / 86400000 + 719468) / 146097) := by
    rw [w12 (400 * ((a / 86400000 + 719468) / 146097)) (by omega) (by omega)]; exact w12 _ (by omega) (by omega)
  have g20 : IntKind.i64.wrap (((monD (calD (eraX (a / 86400000))) : Nat) : Int) + 3) = ((monD (calD (eraX (a / 86400000))) : Nat) : Int) + 3 := w12 _ (by omega) (by omega)
  have g22 : IntKind.i64.wrap (((monD (calD (eraX (a / 86400000))) : Nat) : Int) + 3 - 12) = ((monD (calD (eraX (a / 86400000))) : Nat) : Int) + 3 - 12 := w12 _ (by omega) (by omega)
  have g23 : IntKind.i64.wrap (((calY (eraX (a / 86400000)) : Nat) : Int) + 400 * ((a / 86400000 + 719468) / 146097) + 1) = ((calY (eraX (a / 86400000)) : Nat) : Int) + 400 * ((a / 86400000 + 719468) / 146097) + 1 := w12 _ (by omega) (by omega)
  have g29 : IntKind.i64.wrap (((domD (calD (eraX (a / 86400000))) : Nat) : Int) + 1) = ((domD (calD (eraX (a / 86400000))) : Nat) : Int) + 1 := w12 _ (by omega) (by omega)
  have hdn := down_ok (a / 86400000 + 719468) 146097 hD (by decide) (by decide)
  rw [hx] at hdn
  generalize (a / 86400000 + 719468) / 146097 = age at *
  generalize calY (eraX (a / 86400000)) = Y at *
  generalize hdd : calD (eraX (a / 86400000)) = dd at *
  generalize hMM : monD dd = M at *
  generalize hdm : domD dd = dm at *
  refine PSpec.of_WC cxA_ok Tryz.func413 rfl Tryz.call413 (Nat.le_of_ble_eq_true rfl) (g := 1) ?_
  conv => whnf
  repeat' first | (refine RegP.enter ?_; conv => whnf) | (refine DrawP.range (by kernel_rfl) ?_; conv => whnf) | (refine BuildP.frz ⟨rfl, ?_⟩; conv => whnf) | (refine BoxP.row ?_; conv => whnf) | (refine And.intro Nat.zero_lt_one ?_; conv => whnf) | (refine And.intro (Nat.succ_pos _) ?_; conv => whnf) | (refine call_same (down_ok a 86400000 ha (by decide) (by decide)) rfl ?_; conv => whnf) | (refine call_same (hdn) rfl ?_; conv => whnf) | (refine And.intro (by first | decide | assumption | omega | (simp; done) | (simp; omega)) ?_; conv => whnf) | (rw [hw]; conv => whnf) | (rw [hx]; conv => whnf) | (rw [g15]; conv => whnf) | (rw [g16]; conv => whnf) | (rw [g17]; conv => whnf) | (rw [g18]; conv => whnf) | (rw [g19]; conv => whnf) | (rw [g20]; conv => whnf) | fail
  cases hg : decide ((M : Int) + 3 > 12)
  · conv => whnf
    repeat' first | (refine RegP.enter ?_; conv => whnf) | (refine DrawP.range (by kernel_rfl) ?_; conv => whnf) | (refine BuildP.frz ⟨rfl, ?_⟩; conv => whnf) | (refine BoxP.row ?_; conv => whnf) | (refine And.intro Nat.zero_lt_one ?_; conv => whnf) | (refine And.intro (Nat.succ_pos _) ?_; conv => whnf) | (refine And.intro (by first | decide | assumption | omega | (simp; done) | (simp; omega)) ?_; conv => whnf) | (rw [g29]; conv => whnf) | fail
    refine Ent.of_check ?_ rfl
    conv => whnf
    (iterate 3 ((all_goals try (conv => whnf)); (repeat' first | exact True.intro | (refine And.intro ?_ ?_) | rfl | exact fun _ h => h | exact .inl rfl | exact none_some | exact .inr ⟨rfl, rfl, fun _ _ => rfl⟩ | exact .inr ⟨rfl, rfl, lt1 rfl⟩ | exact .inr ⟨rfl, rfl, lt2 rfl rfl⟩ | exact .inr ⟨rfl, rfl, lt3 rfl rfl rfl⟩ | fail)))
  · conv => whnf
    repeat' first | (refine RegP.enter ?_; conv => whnf) | (refine DrawP.range (by kernel_rfl) ?_; conv => whnf) | (refine BuildP.frz ⟨rfl, ?_⟩; conv => whnf) | (refine BoxP.row ?_; conv => whnf) | (refine And.intro Nat.zero_lt_one ?_; conv => whnf) | (refine And.intro (Nat.succ_pos _) ?_; conv => whnf) | (refine And.intro (by first | decide | assumption | omega | (simp; done) | (simp; omega)) ?_; conv => whnf) | (rw [g22]; conv => whnf) | (rw [g23]; conv => whnf) | (rw [g29]; conv => whnf) | fail
    refine Ent.of_check ?_ rfl
    conv => whnf
    (iterate 3 ((all_goals try (conv => whnf)); (repeat' first | exact True.intro | (refine And.intro ?_ ?_) | rfl | exact fun _ h => h | exact .inl rfl | exact none_some | exact .inr ⟨rfl, rfl, fun _ _ => rfl⟩ | exact .inr ⟨rfl, rfl, lt1 rfl⟩ | exact .inr ⟨rfl, rfl, lt2 rfl rfl⟩ | exact .inr ⟨rfl, rfl, lt3 rfl rfl rfl⟩ | fail)))
end Go.Eng

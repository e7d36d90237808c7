/- Eng21: an engine for the program's code, and walks of its functions (Ws Wt). -/
import Derived.Test.YtlcepambcoobgaaGreatDoorEng20
namespace Go.Eng
open Go.Proofs
set_option maxRecDepth 10000
theorem truth_ok (g : GV) : PSpec cxA 389 [.agg g.cells] (.ret (.bool (truthM g))) := by
  generalize hr : truthM g = r
  refine PSpec.of_WC cxA_ok Tryz.func389 rfl Tryz.call389 (Nat.le_of_ble_eq_true rfl) (g := 1) ?_
  conv => whnf
  refine RegP.enter ?_
  conv => whnf
  refine BoxP.frz ⟨rfl, ?_⟩
  conv => whnf
  repeat' first | (refine RegP.enter ?_; conv => whnf) | (refine DrawP.range (by kernel_rfl) ?_; conv => whnf) | (refine BuildP.frz ⟨rfl, ?_⟩; conv => whnf) | (refine BoxP.row ?_; conv => whnf) | (refine And.intro Nat.zero_lt_one ?_; conv => whnf) | (refine And.intro (Nat.succ_pos _) ?_; conv => whnf) | (refine br (fun hb => ?_) (fun hb => ?_) <;> (try rw [hb]) <;> (conv => whnf)) | fail
  all_goals (simp only [truthM, nothingM] at hr)
  all_goals (first | (have e0 : g.kind = 0 := by simp_all) | (have e0 : ¬ g.kind = 0 := by simp_all))
  all_goals (simp_all; try subst hr)
  all_goals (refine Ent.of_check ?_ rfl)
  all_goals (conv => whnf)
  (iterate 3 ((all_goals try (conv => whnf)); (repeat' first | exact True.intro | (refine And.intro ?_ ?_) | rfl | exact fun _ h => h | exact .inl rfl | exact none_some | exact .inr ⟨rfl, rfl, fun _ _ => rfl⟩ | exact .inr ⟨rfl, rfl, lt1 rfl⟩ | exact .inr ⟨rfl, rfl, lt2 rfl rfl⟩ | exact .inr ⟨rfl, rfl, lt3 rfl rfl rfl⟩ | fail)))
  all_goals (cases r <;> simp_all)
theorem gbool_ok (b : Bool) : PSpec cxA 390 [.bool b] (.ret (.agg (gBool b).cells)) := by
  refine PSpec.of_WC cxA_ok Tryz.func390 rfl Tryz.call390 (Nat.le_of_ble_eq_true rfl) (g := 1) ?_
  conv => whnf
  cases b
  · repeat' first | (refine RegP.enter ?_; conv => whnf) | (refine DrawP.range (by kernel_rfl) ?_; conv => whnf) | (refine BuildP.frz ⟨rfl, ?_⟩; conv => whnf) | (refine BoxP.row ?_; conv => whnf) | (refine And.intro Nat.zero_lt_one ?_; conv => whnf) | (refine And.intro (Nat.succ_pos _) ?_; conv => whnf) | fail
    refine Ent.of_check ?_ rfl
    conv => whnf
    (iterate 3 ((all_goals try (conv => whnf)); (repeat' first | exact True.intro | (refine And.intro ?_ ?_) | rfl | exact fun _ h => h | exact .inl rfl | exact none_some | exact .inr ⟨rfl, rfl, fun _ _ => rfl⟩ | exact .inr ⟨rfl, rfl, lt1 rfl⟩ | exact .inr ⟨rfl, rfl, lt2 rfl rfl⟩ | exact .inr ⟨rfl, rfl, lt3 rfl rfl rfl⟩ | fail)))
  · repeat' first | (refine RegP.enter ?_; conv => whnf) | (refine DrawP.range (by kernel_rfl) ?_; conv => whnf) | (refine BuildP.frz ⟨rfl, ?_⟩; conv => whnf) | (refine BoxP.row ?_; conv => whnf) | (refine And.intro Nat.zero_lt_one ?_; conv => whnf) | (refine And.intro (Nat.succ_pos _) ?_; conv => whnf) | fail
    refine Ent.of_check ?_ rfl
    conv => whnf
    (iterate 3 ((all_goals try (conv => whnf)); (repeat' first | exact True.intro | (refine And.intro ?_ ?_) | rfl | exact fun _ h => h | exact .inl rfl | exact none_some | exact .inr ⟨rfl, rfl, fun _ _ => rfl⟩ | exact .inr ⟨rfl, rfl, lt1 rfl⟩ | exact .inr ⟨rfl, rfl, lt2 rfl rfl⟩ | exact .inr ⟨rfl, rfl, lt3 rfl rfl rfl⟩ | fail)))
theorem within_no (g : GV) (h : 65536 < g.sz) : MSpec cxA 391 [.agg g.cells] [] (fun _ : Unit => .pan (stopAV 3)) (fun _ => []) := by
  have hs : sizeM g = 65537 := by unfold sizeM; rw [if_neg (by omega)]
  refine MSpec.of_WC cxA_ok Tryz.func391 rfl Tryz.call391 (Nat.le_of_ble_eq_true rfl) (g := 1) ?_
  conv => whnf
  refine RegP.enter ?_
  conv => whnf
  refine BoxP.frz ⟨rfl, ?_⟩
  conv => whnf
  repeat' first | (refine RegP.enter ?_; conv => whnf) | (refine DrawP.range (by kernel_rfl) ?_; conv => whnf) | (refine BuildP.frz ⟨rfl, ?_⟩; conv => whnf) | (refine BoxP.row ?_; conv => whnf) | (refine And.intro Nat.zero_lt_one ?_; conv => whnf) | (refine And.intro (Nat.succ_pos _) ?_; conv => whnf) | (refine call_same (size_ok g) rfl ?_; conv => whnf) | fail
  rw [hs]
  conv => whnf
  repeat' first | (refine RegP.enter ?_; conv => whnf) | (refine DrawP.range (by kernel_rfl) ?_; conv => whnf) | (refine BuildP.frz ⟨rfl, ?_⟩; conv => whnf) | (refine BoxP.row ?_; conv => whnf) | (refine And.intro Nat.zero_lt_one ?_; conv => whnf) | (refine And.intro (Nat.succ_pos _) ?_; conv => whnf) | fail
  refine call_mm [] 1 6 (fail_ok 3) ?_ ?_ ?_
  · conv => whnf
    (iterate 3 ((all_goals try (conv => whnf)); (repeat' first | exact True.intro | (refine And.intro ?_ ?_) | rfl | exact fun _ h => h | exact .inl rfl | exact none_some | exact .inr ⟨rfl, rfl, fun _ _ => rfl⟩ | exact .inr ⟨rfl, rfl, lt1 rfl⟩ | exact .inr ⟨rfl, rfl, lt2 rfl rfl⟩ | exact .inr ⟨rfl, rfl, lt3 rfl rfl rfl⟩ | fail)))
  · intro _; conv => whnf
    (iterate 3 ((all_goals try (conv => whnf)); (repeat' first | exact True.intro | (refine And.intro ?_ ?_) | rfl | exact fun _ h => h | exact .inl rfl | exact none_some | exact .inr ⟨rfl, rfl, fun _ _ => rfl⟩ | exact .inr ⟨rfl, rfl, lt1 rfl⟩ | exact .inr ⟨rfl, rfl, lt2 rfl rfl⟩ | exact .inr ⟨rfl, rfl, lt3 rfl rfl rfl⟩ | fail)))
  intro x; conv => whnf
  refine ⟨(), _, rfl, Sub.of_check [] ?_ (by repeat' first | exact Gen0.emp | exact Gen0.ofH rfl | refine Gen0.put ?_ (by decide) | refine Gen0.put0 ?_ ⟨_, rfl⟩)⟩
  conv => whnf
  (iterate 3 ((all_goals try (conv => whnf)); (repeat' first | exact True.intro | (refine And.intro ?_ ?_) | rfl | exact fun _ h => h | exact .inl rfl | exact none_some | exact .inr ⟨rfl, rfl, fun _ _ => rfl⟩ | exact .inr ⟨rfl, rfl, lt1 rfl⟩ | exact .inr ⟨rfl, rfl, lt2 rfl rfl⟩ | exact .inr ⟨rfl, rfl, lt3 rfl rfl rfl⟩ | fail)))
theorem within_yes (g : GV) (h : ¬ 65536 < g.sz) : MSpec cxA 391 [.agg g.cells] [] (fun _ : Unit => .ret (.agg g.cells)) (fun _ => []) := by
  have hs : decide (sizeM g > 65536) = false := by unfold sizeM; rw [if_pos (by omega)]; exact decide_eq_false (by omega)
  refine MSpec.of_WC cxA_ok Tryz.func391 rfl Tryz.call391 (Nat.le_of_ble_eq_true rfl) (g := 1) ?_
  conv => whnf
  refine RegP.enter ?_
  conv => whnf
  refine BoxP.frz ⟨rfl, ?_⟩
  conv => whnf
  repeat' first | (refine RegP.enter ?_; conv => whnf) | (refine DrawP.range (by kernel_rfl) ?_; conv => whnf) | (refine BuildP.frz ⟨rfl, ?_⟩; conv => whnf) | (refine BoxP.row ?_; conv => whnf) | (refine And.intro Nat.zero_lt_one ?_; conv => whnf) | (refine And.intro (Nat.succ_pos _) ?_; conv => whnf) | (refine call_same (size_ok g) rfl ?_; conv => whnf) | fail
  rw [hs]
  conv => whnf
  repeat' first | (refine RegP.enter ?_; conv => whnf) | (refine DrawP.range (by kernel_rfl) ?_; conv => whnf) | (refine BuildP.frz ⟨rfl, ?_⟩; conv => whnf) | (refine BoxP.row ?_; conv => whnf) | (refine And.intro Nat.zero_lt_one ?_; conv => whnf) | (refine And.intro (Nat.succ_pos _) ?_; conv => whnf) | fail
  refine ⟨(), _, rfl, Sub.of_check [] ?_ (by repeat' first | exact Gen0.emp | exact Gen0.ofH rfl | refine Gen0.put ?_ (by decide) | refine Gen0.put0 ?_ ⟨_, rfl⟩)⟩
  conv => whnf
  (iterate 3 ((all_goals try (conv => whnf)); (repeat' first | exact True.intro | (refine And.intro ?_ ?_) | rfl | exact fun _ h => h | exact .inl rfl | exact none_some | exact .inr ⟨rfl, rfl, fun _ _ => rfl⟩ | exact .inr ⟨rfl, rfl, lt1 rfl⟩ | exact .inr ⟨rfl, rfl, lt2 rfl rfl⟩ | exact .inr ⟨rfl, rfl, lt3 rfl rfl rfl⟩ | fail)))
theorem nothing_ok (g : GV) : PSpec cxA 392 [.agg g.cells] (.ret (.bool (nothingM g))) := by
  generalize hr : nothingM g = r
  refine PSpec.of_WC cxA_ok Tryz.func392 rfl Tryz.call392 (Nat.le_of_ble_eq_true rfl) (g := 1) ?_
  conv => whnf
  refine RegP.enter ?_
  conv => whnf
  refine BoxP.frz ⟨rfl, ?_⟩
  conv => whnf
  repeat' first | (refine RegP.enter ?_; conv => whnf) | (refine DrawP.range (by kernel_rfl) ?_; conv => whnf) | (refine BuildP.frz ⟨rfl, ?_⟩; conv => whnf) | (refine BoxP.row ?_; conv => whnf) | (refine And.intro Nat.zero_lt_one ?_; conv => whnf) | (refine And.intro (Nat.succ_pos _) ?_; conv => whnf) | fail
  unfold nothingM at hr
  cases h : (g.kind == 0)
  · have : decide (g.kind = 0) = false := by simpa using h
    rw [this] at hr
    replace hr : decide (g.kind = 2) = r := hr
    conv => whnf
    repeat' first | (refine RegP.enter ?_; conv => whnf) | (refine DrawP.range (by kernel_rfl) ?_; conv => whnf) | (refine BuildP.frz ⟨rfl, ?_⟩; conv => whnf) | (refine BoxP.row ?_; conv => whnf) | (refine And.intro Nat.zero_lt_one ?_; conv => whnf) | (refine And.intro (Nat.succ_pos _) ?_; conv => whnf) | fail
    have h2 : (g.kind == 2) = r := by rw [← hr]; rfl
    rw [h2]
    conv => whnf
    repeat' first | (refine RegP.enter ?_; conv => whnf) | (refine DrawP.range (by kernel_rfl) ?_; conv => whnf) | (refine BuildP.frz ⟨rfl, ?_⟩; conv => whnf) | (refine BoxP.row ?_; conv => whnf) | (refine And.intro Nat.zero_lt_one ?_; conv => whnf) | (refine And.intro (Nat.succ_pos _) ?_; conv => whnf) | fail
    refine Ent.of_check ?_ rfl
    conv => whnf
    (iterate 3 ((all_goals try (conv => whnf)); (repeat' first | exact True.intro | (refine And.intro ?_ ?_) | rfl | exact fun _ h => h | exact .inl rfl | exact none_some | exact .inr ⟨rfl, rfl, fun _ _ => rfl⟩ | exact .inr ⟨rfl, rfl, lt1 rfl⟩ | exact .inr ⟨rfl, rfl, lt2 rfl rfl⟩ | exact .inr ⟨rfl, rfl, lt3 rfl rfl rfl⟩ | fail)))
  · have : decide (g.kind = 0) = true := by simpa using h
    rw [this] at hr
    replace hr : true = r := hr
    subst hr
    conv => whnf
    repeat' first | (refine RegP.enter ?_; conv => whnf) | (refine DrawP.range (by kernel_rfl) ?_; conv => whnf) | (refine BuildP.frz ⟨rfl, ?_⟩; conv => whnf) | (refine BoxP.row ?_; conv => whnf) | (refine And.intro Nat.zero_lt_one ?_; conv => whnf) | (refine And.intro (Nat.succ_pos _) ?_; conv => whnf) | fail
    refine Ent.of_check ?_ rfl
    conv => whnf
    (iterate 3 ((all_goals try (conv => whnf)); (repeat' first | exact True.intro | (refine And.intro ?_ ?_) | rfl | exact fun _ h => h | exact .inl rfl | exact none_some | exact .inr ⟨rfl, rfl, fun _ _ => rfl⟩ | exact .inr ⟨rfl, rfl, lt1 rfl⟩ | exact .inr ⟨rfl, rfl, lt2 rfl rfl⟩ | exact .inr ⟨rfl, rfl, lt3 rfl rfl rfl⟩ | fail)))
/-- slices.IndexFunc over values, of a function that only computes. -/
theorem indexFuncV_ok (l : List GV) (f : FuncId) (a b : List AV) (ha : idfL a = true) (hb : idfL b = true) (p : GV → Bool) (hp : ∀ s, s ∈ l → PSpec cxA f (a ++ [.agg s.cells] ++ b) (.ret (.bool (p s)))) :
    PSpec cxA 401 [.lz (.gl l), .clo (.func f) a b] (.ret (.int (idxI p l))) := by
  generalize hr : idxI p l = r
  refine PSpec.of_WC cxA_ok Tryz.func401 rfl Tryz.call401 (Nat.le_of_ble_eq_true rfl) (g := 1) ?_
  conv => whnf
  repeat' first | (refine RegP.enter ?_; conv => whnf) | (refine DrawP.range (by kernel_rfl) ?_; conv => whnf) | (refine BuildP.frz ⟨rfl, ?_⟩; conv => whnf) | (refine BoxP.row ?_; conv => whnf) | (refine And.intro Nat.zero_lt_one ?_; conv => whnf) | (refine And.intro (Nat.succ_pos _) ?_; conv => whnf) | fail
  refine ⟨2, {i : Nat // i ≤ l.length ∧ ∀ j, j < i → p (l.getD j default) = false}, fun i => ([(0, .lz (.gl l)), (1, .clo (.func f) a b), (7, .int l.length), (8, .int i.1)], []), fun i => l.length - i.1, ⟨⟨0, Nat.zero_le _, fun _ h => absurd h (Nat.not_lt_zero _)⟩, Sub.of_check [] ?_ (by repeat' first | exact Gen0.emp | exact Gen0.ofH rfl | refine Gen0.put ?_ (by decide) | refine Gen0.put0 ?_ ⟨_, rfl⟩)⟩, fun ⟨i, hi, hia⟩ => ?_⟩
  · conv => whnf
    (iterate 3 ((all_goals try (conv => whnf)); (repeat' first | exact True.intro | (refine And.intro ?_ ?_) | rfl | exact fun _ h => h | exact .inl rfl | exact none_some | exact .inr ⟨rfl, rfl, fun _ _ => rfl⟩ | exact .inr ⟨rfl, rfl, lt1 rfl⟩ | exact .inr ⟨rfl, rfl, lt2 rfl rfl⟩ | exact .inr ⟨rfl, rfl, lt3 rfl rfl rfl⟩ | fail)))
    all_goals first | exact leL_refl _ ha | exact leL_refl _ hb
  conv => whnf
  refine RegP.go fun hf => ?_
  conv => whnf
  refine br (fun hl => ?_) (fun hl => ?_)
  rotate_left
  · have hge : i = l.length := by
      have : ¬ i < l.length := by simpa using hl
      omega
    try rw [hl]
    conv => whnf
    repeat' first | (refine RegP.enter ?_; conv => whnf) | (refine DrawP.range (by kernel_rfl) ?_; conv => whnf) | (refine BuildP.frz ⟨rfl, ?_⟩; conv => whnf) | (refine BoxP.row ?_; conv => whnf) | (refine And.intro Nat.zero_lt_one ?_; conv => whnf) | (refine And.intro (Nat.succ_pos _) ?_; conv => whnf) | fail
    refine Ent.of_check ?_ rfl
    conv => whnf
    (iterate 3 ((all_goals try (conv => whnf)); (repeat' first | exact True.intro | (refine And.intro ?_ ?_) | rfl | exact fun _ h => h | exact .inl rfl | exact none_some | exact .inr ⟨rfl, rfl, fun _ _ => rfl⟩ | exact .inr ⟨rfl, rfl, lt1 rfl⟩ | exact .inr ⟨rfl, rfl, lt2 rfl rfl⟩ | exact .inr ⟨rfl, rfl, lt3 rfl rfl rfl⟩ | fail)))
    rw [← hr, idxI_none (by rw [← hge]; exact hia)]
  have hlt : i < l.length := by simpa using hl
  have hR := le_of_mul (k := 79) (hf.lz 0 _ _ _ _ _ _ rfl rfl)
  have hmem : l.getD i default ∈ l := by simp [hlt]
  try rw [hl]
  conv => whnf
  repeat' first | (refine RegP.enter ?_; conv => whnf) | (refine DrawP.range (by kernel_rfl) ?_; conv => whnf) | (refine BuildP.frz ⟨rfl, ?_⟩; conv => whnf) | (refine BoxP.row ?_; conv => whnf) | (refine And.intro Nat.zero_lt_one ?_; conv => whnf) | (refine And.intro (Nat.succ_pos _) ?_; conv => whnf) | fail
  refine And.intro (hlt) ?_
  conv => whnf
  refine And.intro (hlt) ?_
  conv => whnf
  refine call_same (hp _ hmem) (by rw [idfL_app, idfL_app, ha, hb]; rfl) ?_
  conv => whnf
  refine br (fun hx => ?_) (fun hx => ?_)
  · try rw [hx]
    conv => whnf
    repeat' first | (refine RegP.enter ?_; conv => whnf) | (refine DrawP.range (by kernel_rfl) ?_; conv => whnf) | (refine BuildP.frz ⟨rfl, ?_⟩; conv => whnf) | (refine BoxP.row ?_; conv => whnf) | (refine And.intro Nat.zero_lt_one ?_; conv => whnf) | (refine And.intro (Nat.succ_pos _) ?_; conv => whnf) | fail
    refine Ent.of_check ?_ rfl
    conv => whnf
    (iterate 3 ((all_goals try (conv => whnf)); (repeat' first | exact True.intro | (refine And.intro ?_ ?_) | rfl | exact fun _ h => h | exact .inl rfl | exact none_some | exact .inr ⟨rfl, rfl, fun _ _ => rfl⟩ | exact .inr ⟨rfl, rfl, lt1 rfl⟩ | exact .inr ⟨rfl, rfl, lt2 rfl rfl⟩ | exact .inr ⟨rfl, rfl, lt3 rfl rfl rfl⟩ | fail)))
    rw [← hr, idxI_some hlt hx hia]
  · try rw [hx]
    conv => whnf
    repeat' first | (refine RegP.enter ?_; conv => whnf) | (refine DrawP.range (by kernel_rfl) ?_; conv => whnf) | (refine BuildP.frz ⟨rfl, ?_⟩; conv => whnf) | (refine BoxP.row ?_; conv => whnf) | (refine And.intro Nat.zero_lt_one ?_; conv => whnf) | (refine And.intro (Nat.succ_pos _) ?_; conv => whnf) | fail
    refine ⟨⟨i + 1, hlt, fun j hj => (Nat.lt_or_eq_of_le (Nat.le_of_lt_succ hj)).elim (hia j) (fun e => e ▸ hx)⟩, (by show l.length - (i + 1) < l.length - i; omega), Sub.of_check [] ?_ (by repeat' first | exact Gen0.emp | exact Gen0.ofH rfl | refine Gen0.put ?_ (by decide) | refine Gen0.put0 ?_ ⟨_, rfl⟩)⟩
    conv => whnf
    (iterate 3 ((all_goals try (conv => whnf)); (repeat' first | exact True.intro | (refine And.intro ?_ ?_) | rfl | exact fun _ h => h | exact .inl rfl | exact none_some | exact .inr ⟨rfl, rfl, fun _ _ => rfl⟩ | exact .inr ⟨rfl, rfl, lt1 rfl⟩ | exact .inr ⟨rfl, rfl, lt2 rfl rfl⟩ | exact .inr ⟨rfl, rfl, lt3 rfl rfl rfl⟩ | fail)))
    all_goals first | exact leL_refl _ ha | exact leL_refl _ hb | exact wrap_succ hlt hR
theorem anyNothing_ok (l : List GV) : PSpec cxA 394 [.lz (.gl l), .clo (.func 392) [] []] (.ret (.bool (l.any nothingM))) := by
  refine PSpec.of_WC cxA_ok Tryz.func394 rfl Tryz.call394 (Nat.le_of_ble_eq_true rfl) (g := 1) ?_
  conv => whnf
  repeat' first | (refine RegP.enter ?_; conv => whnf) | (refine DrawP.range (by kernel_rfl) ?_; conv => whnf) | (refine BuildP.frz ⟨rfl, ?_⟩; conv => whnf) | (refine BoxP.row ?_; conv => whnf) | (refine And.intro Nat.zero_lt_one ?_; conv => whnf) | (refine And.intro (Nat.succ_pos _) ?_; conv => whnf) | (refine call_same (indexFuncV_ok l 392 [] [] rfl rfl nothingM (fun g _ => nothing_ok g)) rfl ?_; conv => whnf) | fail
  rw [idxI_any]
  conv => whnf
  repeat' first | (refine RegP.enter ?_; conv => whnf) | (refine DrawP.range (by kernel_rfl) ?_; conv => whnf) | (refine BuildP.frz ⟨rfl, ?_⟩; conv => whnf) | (refine BoxP.row ?_; conv => whnf) | (refine And.intro Nat.zero_lt_one ?_; conv => whnf) | (refine And.intro (Nat.succ_pos _) ?_; conv => whnf) | fail
  refine Ent.of_check ?_ rfl
  conv => whnf
  (iterate 3 ((all_goals try (conv => whnf)); (repeat' first | exact True.intro | (refine And.intro ?_ ?_) | rfl | exact fun _ h => h | exact .inl rfl | exact none_some | exact .inr ⟨rfl, rfl, fun _ _ => rfl⟩ | exact .inr ⟨rfl, rfl, lt1 rfl⟩ | exact .inr ⟨rfl, rfl, lt2 rfl rfl⟩ | exact .inr ⟨rfl, rfl, lt3 rfl rfl rfl⟩ | fail)))
end Go.Eng
namespace Go.Eng
open Go.Proofs
set_option maxRecDepth 10000
theorem meth_evFn (x : Nd) : cxA.meth x.ty "coffret/expr.eval" = some (evFn x) := by cases x <;> rfl
def LoOk (O : Ops) : Prop := ∀ op l, match O.lo op l with
  | .unk => True
  | .some g => PSpec cxA 393 [.str op, .lz (.gl l)] (.ret (.tup [.agg g.cells, .bool true]))
  | .none => PSpec cxA 393 [.str op, .lz (.gl l)] (.ret (.tup [.agg gZero.cells, .bool false]))
def StOk (O : Ops) : Prop := ∀ op l doc k, StepOk k → RsSpec 395 [.ptr (0,0,0) 0 0, .str op, .lz (.gl l)] doc k (O.st op l k) ∧ RsBd k (O.st op l k)
def aftP (O : Ops) (op : ByteArray) (l : List GV) (k : Int) : Rs GV := match O.lo op l with
  | .unk => .unk
  | .some g => withinM g k
  | .none => match l.any nothingM with
    | true => .ok gNull k
    | false => match O.st op l k with
      | .unk => .unk
      | .fail e k => .fail e k
      | .ok g k => withinM g k
def bindQ (O : Ops) (op : ByteArray) (q : List GV) : Rs (List GV) → Rs GV
  | .unk => .unk
  | .fail e k => .fail e k
  | .ok l k => aftP O op (q ++ l) k
theorem plainP_eq (O : Ops) (ev : Nd → GV → List (ByteArray × GV) → Int → Rs GV) (op : ByteArray) (args : List Nd) (doc : GV) (s : List (ByteArray × GV)) (k : Int) : plainP O ev op args doc s k = bindQ O op [] (rowP ev doc s args k) := by
  unfold plainP
  cases rowP ev doc s args k <;> rfl
theorem rowP_drop {ev : Nd → GV → List (ByteArray × GV) → Int → Rs GV} {doc : GV} {s : List (ByteArray × GV)} {l : List Nd} {i : Nat} {k : Int} (h : i < l.length) : rowP ev doc s (l.drop i) k = (match stepF ev (l.getD i default) doc s k with
    | .unk => .unk
    | .fail e k => .fail e k
    | .ok g k => match rowP ev doc s (l.drop (i + 1)) k with
      | .unk => .unk
      | .fail e k => .fail e k
      | .ok r k => .ok (g :: r) k) := by
  have e : l.getD i default = l[i] := by simp [h]
  rw [List.drop_eq_getElem_cons h, e, rowP]; rfl
theorem bindQ_cons (O : Ops) (op : ByteArray) (q : List GV) (g : GV) (r : Rs (List GV)) : bindQ O op q (match r with | .unk => .unk | .fail e k => .fail e k | .ok r k => .ok (g :: r) k) = bindQ O op (q ++ [g]) r := by
  cases r <;> simp [bindQ]
set_option maxHeartbeats 4000000 in
theorem plain_ok {O : Ops} (hlo : LoOk O) (hst : StOk O) {ev : Nd → GV → List (ByteArray × GV) → Int → Rs GV} (hev : EvOk ev) (op : ByteArray) (args : List Nd) (doc : GV) (s : List (ByteArray × GV)) (k : Int) (hk : StepOk k)
    (t1 : decide (op = oLiteral) = false) (t2 : decide (op = oAnd) = false) (t3 : decide (op = oOr) = false) (t4 : decide (op = oCond) = false) (t5 : decide (op = oIfNull) = false) :
    RsSpec 388 [.agg [.str op, .lz (.gn args)], .ptr (0,0,0) 0 0, scAV s] doc k (plainP O ev op args doc s k) := by
  rw [plainP_eq]
  generalize hr : bindQ O op [] (rowP ev doc s args k) = r
  refine RsSpec.of fun hu => ?_
  refine MSpec.of_WC cxA_ok Tryz.func388 rfl Tryz.call388 (Nat.le_of_ble_eq_true rfl) (g := 1) ?_
  conv => whnf
  refine RegP.enter ?_
  conv => whnf
  refine BoxP.frz ⟨rfl, ?_⟩
  conv => whnf
  repeat' first | (refine RegP.enter ?_; conv => whnf) | (refine DrawP.range (by kernel_rfl) ?_; conv => whnf) | (refine BuildP.frz ⟨rfl, ?_⟩; conv => whnf) | (refine BoxP.row ?_; conv => whnf) | (refine And.intro Nat.zero_lt_one ?_; conv => whnf) | (refine And.intro (Nat.succ_pos _) ?_; conv => whnf) | fail
  rw [t1]
  conv => whnf
  repeat' first | (refine RegP.enter ?_; conv => whnf) | (refine DrawP.range (by kernel_rfl) ?_; conv => whnf) | (refine BuildP.frz ⟨rfl, ?_⟩; conv => whnf) | (refine BoxP.row ?_; conv => whnf) | (refine And.intro Nat.zero_lt_one ?_; conv => whnf) | (refine And.intro (Nat.succ_pos _) ?_; conv => whnf) | fail
  rw [t2]
  conv => whnf
  repeat' first | (refine RegP.enter ?_; conv => whnf) | (refine DrawP.range (by kernel_rfl) ?_; conv => whnf) | (refine BuildP.frz ⟨rfl, ?_⟩; conv => whnf) | (refine BoxP.row ?_; conv => whnf) | (refine And.intro Nat.zero_lt_one ?_; conv => whnf) | (refine And.intro (Nat.succ_pos _) ?_; conv => whnf) | fail
  rw [t3]
  conv => whnf
  repeat' first | (refine RegP.enter ?_; conv => whnf) | (refine DrawP.range (by kernel_rfl) ?_; conv => whnf) | (refine BuildP.frz ⟨rfl, ?_⟩; conv => whnf) | (refine BoxP.row ?_; conv => whnf) | (refine And.intro Nat.zero_lt_one ?_; conv => whnf) | (refine And.intro (Nat.succ_pos _) ?_; conv => whnf) | fail
  rw [t4]
  conv => whnf
  repeat' first | (refine RegP.enter ?_; conv => whnf) | (refine DrawP.range (by kernel_rfl) ?_; conv => whnf) | (refine BuildP.frz ⟨rfl, ?_⟩; conv => whnf) | (refine BoxP.row ?_; conv => whnf) | (refine And.intro Nat.zero_lt_one ?_; conv => whnf) | (refine And.intro (Nat.succ_pos _) ?_; conv => whnf) | fail
  rw [t5]
  conv => whnf
  repeat' first | (refine RegP.enter ?_; conv => whnf) | (refine DrawP.range (by kernel_rfl) ?_; conv => whnf) | (refine BuildP.frz ⟨rfl, ?_⟩; conv => whnf) | (refine BoxP.row ?_; conv => whnf) | (refine And.intro Nat.zero_lt_one ?_; conv => whnf) | (refine And.intro (Nat.succ_pos _) ?_; conv => whnf) | fail
  refine ⟨2, {q : List GV × Int // q.1.length ≤ args.length ∧ (q.1.length : Int) ≤ q.2 ∧ StepOk q.2 ∧ bindQ O op q.1 (rowP ev doc s (args.drop q.1.length) q.2) = r}, fun i => ([(1, .ptr (0,0,0) 0 0), (2, scAV s), (3, .fptr 2 1 (fun _ => [.str op, .lz (.gn args)]) 0 0), (6, .ptr (1,6,0) 0 0), (11, .row (2,0,0) 0 i.1.1.length none), (97, .lz (.gn args)), (98, .int args.length), (99, .int i.1.1.length)], [((0,0,0), runRow doc i.1.2), ((1,6,0), .cells 5 80 [[.int 0, .int 0, .str ⟨#[]⟩, .nil, .nil]]), ((2,0,0), .cells 5 80 (i.1.1.map GV.cells))]), fun i => args.length - i.1.1.length, ⟨⟨([], k), Nat.zero_le _, hk.1, hk, hr⟩, Sub.of_check [((0,0,0), .old true (0,0,0)), ((1,6,0), .old true (1,6,0)), ((2,0,0), .new 5 80)] ?_ (by repeat' first | exact Gen0.emp | exact Gen0.ofH rfl | refine Gen0.put ?_ (by decide) | refine Gen0.put0 ?_ ⟨_, rfl⟩)⟩, fun ⟨⟨q, kk⟩, hq, hqk, hkk, hia⟩ => ?_⟩
  · conv => whnf
    (iterate 3 ((all_goals try (conv => whnf)); (repeat' first | exact True.intro | (refine And.intro ?_ ?_) | rfl | exact fun _ h => h | exact .inl rfl | exact none_some | exact .inr ⟨rfl, rfl, fun _ _ => rfl⟩ | exact .inr ⟨rfl, rfl, lt1 rfl⟩ | exact .inr ⟨rfl, rfl, lt2 rfl rfl⟩ | exact .inr ⟨rfl, rfl, lt3 rfl rfl rfl⟩ | fail)))
    all_goals first | exact leK_refl _ (idf_sc _) | exact idfL_map idfL_cells _ | trace_state
  conv => whnf
  refine RegP.go fun hf => ?_
  conv => whnf
  refine br (fun hl => ?_) (fun hl => ?_)
  · have hlt : q.length < args.length := by simpa using hl
    have hRl := hf.lz 97 _ _ _ _ _ _ rfl rfl
    have hRr := hf.row (2,0,0) _ _ _ rfl
    try rw [hl]
    conv => whnf
    repeat' first | (refine RegP.enter ?_; conv => whnf) | (refine DrawP.range (by kernel_rfl) ?_; conv => whnf) | (refine BuildP.frz ⟨rfl, ?_⟩; conv => whnf) | (refine BoxP.row ?_; conv => whnf) | (refine And.intro Nat.zero_lt_one ?_; conv => whnf) | (refine And.intro (Nat.succ_pos _) ?_; conv => whnf) | fail
    refine And.intro (hlt) ?_
    conv => whnf
    refine And.intro (hlt) ?_
    conv => whnf
    repeat' first | (refine RegP.enter ?_; conv => whnf) | (refine DrawP.range (by kernel_rfl) ?_; conv => whnf) | (refine BuildP.frz ⟨rfl, ?_⟩; conv => whnf) | (refine BoxP.row ?_; conv => whnf) | (refine And.intro Nat.zero_lt_one ?_; conv => whnf) | (refine And.intro (Nat.succ_pos _) ?_; conv => whnf) | fail
    rw [rowP_drop hlt] at hia
    obtain ⟨hs, hb⟩ := step_ok hev (args.getD q.length default) doc s kk hkk
    replace hia : bindQ O op q (match stepF ev (args.getD q.length default) doc s kk with | .unk => .unk | .fail e k => .fail e k | .ok g k => match rowP ev doc s (args.drop (q.length + 1)) k with | .unk => .unk | .fail e k => .fail e k | .ok r k => .ok (g :: r) k) = r := hia
    generalize stepF ev (args.getD q.length default) doc s kk = rs at *
    cases rs with
    | unk => exact absurd hia.symm hu
    | fail e k' =>
      replace hia : .fail e k' = r := hia
      subst hia
      refine call_mm [((0,0,0), .old true (0,0,0))] 2 107 (hs) ?_ ?_ ?_
      · conv => whnf
        (iterate 3 ((all_goals try (conv => whnf)); (repeat' first | exact True.intro | (refine And.intro ?_ ?_) | rfl | exact fun _ h => h | exact .inl rfl | exact none_some | exact .inr ⟨rfl, rfl, fun _ _ => rfl⟩ | exact .inr ⟨rfl, rfl, lt1 rfl⟩ | exact .inr ⟨rfl, rfl, lt2 rfl rfl⟩ | exact .inr ⟨rfl, rfl, lt3 rfl rfl rfl⟩ | fail)))
        all_goals first | exact leK_refl _ (idf_sc _) | exact leK_refl _ (idf_av _)
      · intro _; conv => whnf
        (iterate 3 ((all_goals try (conv => whnf)); (repeat' first | exact True.intro | (refine And.intro ?_ ?_) | rfl | exact fun _ h => h | exact .inl rfl | exact none_some | exact .inr ⟨rfl, rfl, fun _ _ => rfl⟩ | exact .inr ⟨rfl, rfl, lt1 rfl⟩ | exact .inr ⟨rfl, rfl, lt2 rfl rfl⟩ | exact .inr ⟨rfl, rfl, lt3 rfl rfl rfl⟩ | fail)))
      intro x; conv => whnf
      refine ⟨(), _, rfl, Sub.of_check [((0,0,0), .old true (0,0,0))] ?_ (by repeat' first | exact Gen0.emp | exact Gen0.ofH rfl | refine Gen0.put ?_ (by decide) | refine Gen0.put0 ?_ ⟨_, rfl⟩)⟩
      conv => whnf
      (iterate 3 ((all_goals try (conv => whnf)); (repeat' first | exact True.intro | (refine And.intro ?_ ?_) | rfl | exact fun _ h => h | exact .inl rfl | exact none_some | exact .inr ⟨rfl, rfl, fun _ _ => rfl⟩ | exact .inr ⟨rfl, rfl, lt1 rfl⟩ | exact .inr ⟨rfl, rfl, lt2 rfl rfl⟩ | exact .inr ⟨rfl, rfl, lt3 rfl rfl rfl⟩ | fail)))
    | ok g k' =>
      rw [bindQ_cons] at hia
      refine call_mm [((0,0,0), .old true (0,0,0))] 2 107 (hs) ?_ ?_ ?_
      · conv => whnf
        (iterate 3 ((all_goals try (conv => whnf)); (repeat' first | exact True.intro | (refine And.intro ?_ ?_) | rfl | exact fun _ h => h | exact .inl rfl | exact none_some | exact .inr ⟨rfl, rfl, fun _ _ => rfl⟩ | exact .inr ⟨rfl, rfl, lt1 rfl⟩ | exact .inr ⟨rfl, rfl, lt2 rfl rfl⟩ | exact .inr ⟨rfl, rfl, lt3 rfl rfl rfl⟩ | fail)))
        all_goals first | exact leK_refl _ (idf_sc _) | exact leK_refl _ (idf_av _)
      · intro _; conv => whnf
        (iterate 3 ((all_goals try (conv => whnf)); (repeat' first | exact True.intro | (refine And.intro ?_ ?_) | rfl | exact fun _ h => h | exact .inl rfl | exact none_some | exact .inr ⟨rfl, rfl, fun _ _ => rfl⟩ | exact .inr ⟨rfl, rfl, lt1 rfl⟩ | exact .inr ⟨rfl, rfl, lt2 rfl rfl⟩ | exact .inr ⟨rfl, rfl, lt3 rfl rfl rfl⟩ | fail)))
      intro x; conv => whnf
      refine BuildP.row ?_
      conv => whnf
      have hq2 : q.length + 1 ≤ 20000 := by
        have h1 := hb.1
        have h2 := hb.2.2
        have h3 : (q.length : Int) ≤ kk := hqk
        omega
      refine AppP.grow ⟨⟨by simp, by simp only [R]; omega⟩, ?_⟩
      conv => whnf
      repeat' first | (refine RegP.enter ?_; conv => whnf) | (refine DrawP.range (by kernel_rfl) ?_; conv => whnf) | (refine BuildP.frz ⟨rfl, ?_⟩; conv => whnf) | (refine BoxP.row ?_; conv => whnf) | (refine And.intro Nat.zero_lt_one ?_; conv => whnf) | (refine And.intro (Nat.succ_pos _) ?_; conv => whnf) | fail
      refine ⟨⟨(q ++ [g], k'), by simp; omega, by have h1 := hb.1; have h3 : (q.length : Int) ≤ kk := hqk; simp; omega, hb.2, by simpa using hia⟩, (by simp; omega), Sub.of_check [((0,0,0), .old true (0,0,0)), ((1,6,0), .old true (1,6,0)), ((2,0,0), .old false (2,109,0))] ?_ (by repeat' first | exact Gen0.emp | exact Gen0.ofH rfl | refine Gen0.put ?_ (by decide) | refine Gen0.put0 ?_ ⟨_, rfl⟩)⟩
      conv => whnf
      (iterate 3 ((all_goals try (conv => whnf)); (repeat' first | exact True.intro | (refine And.intro ?_ ?_) | rfl | exact fun _ h => h | exact .inl rfl | exact none_some | exact .inr ⟨rfl, rfl, fun _ _ => rfl⟩ | exact .inr ⟨rfl, rfl, lt1 rfl⟩ | exact .inr ⟨rfl, rfl, lt2 rfl rfl⟩ | exact .inr ⟨rfl, rfl, lt3 rfl rfl rfl⟩ | fail)))
      all_goals first | exact leK_refl _ (idf_sc _) | (show IntKind.i64.wrap ((q.length : Int) + 1) = (((q ++ [g]).length : Nat) : Int); rw [List.length_append]; exact wrap_succ hlt (le_of_mul (k := 15) hRl)) | exact snoc_map GV.cells _ _ | exact idfL_map idfL_cells _ | (show q.length + 1 = (q ++ [g]).length; simp; done) | trace_state
  have hge : q.length = args.length := by
    have : ¬ q.length < args.length := by simpa using hl
    have : q.length ≤ args.length := hq
    omega
  have hia : aftP O op q kk = r := by
    rw [← hia]
    show _ = bindQ O op q (rowP ev doc s (args.drop q.length) kk)
    rw [hge, List.drop_length]
    simp [rowP, bindQ]
  try rw [hl]
  conv => whnf
  refine RegP.view ⟨[(1, .ptr (0,0,0) 0 0), (2, scAV s), (3, .fptr 2 1 (fun _ => [.str op, .lz (.gn args)]) 0 0), (6, .ptr (1,6,0) 0 0), (11, .lz (.gl q))], [((0,0,0), runRow doc kk), ((1,6,0), .cells 5 80 [[.int 0, .int 0, .str ⟨#[]⟩, .nil, .nil]])], Sub.of_check [((0,0,0), .old true (0,0,0)), ((1,6,0), .old true (1,6,0))] ?_ (by repeat' first | exact Gen0.emp | exact Gen0.ofH rfl | refine Gen0.put ?_ (by decide) | refine Gen0.put0 ?_ ⟨_, rfl⟩), ?_⟩
  · conv => whnf
    (iterate 3 ((all_goals try (conv => whnf)); (repeat' first | exact True.intro | (refine And.intro ?_ ?_) | rfl | exact fun _ h => h | exact .inl rfl | exact none_some | exact .inr ⟨rfl, rfl, fun _ _ => rfl⟩ | exact .inr ⟨rfl, rfl, lt1 rfl⟩ | exact .inr ⟨rfl, rfl, lt2 rfl rfl⟩ | exact .inr ⟨rfl, rfl, lt3 rfl rfl rfl⟩ | fail)))
    all_goals first | exact leK_refl _ (idf_sc _) | exact len_map _ _ | exact frz_all idfL_cells _ | trace_state
  refine fun hf => ?_
  conv => whnf
  have hl0 := hlo op q
  unfold aftP at hia
  have hin : (q.any nothingM) = q.any nothingM := rfl
  generalize O.lo op q = lo at *
  cases lo with
  | unk => exact absurd hia.symm hu
  | some g =>
    replace hia : withinM g kk = r := hia
    repeat' first | (refine RegP.enter ?_; conv => whnf) | (refine DrawP.range (by kernel_rfl) ?_; conv => whnf) | (refine BuildP.frz ⟨rfl, ?_⟩; conv => whnf) | (refine BoxP.row ?_; conv => whnf) | (refine And.intro Nat.zero_lt_one ?_; conv => whnf) | (refine And.intro (Nat.succ_pos _) ?_; conv => whnf) | (refine call_same (hl0) rfl ?_; conv => whnf) | fail
    unfold withinM at hia
    by_cases hw : 65536 < g.sz
    · rw [decide_eq_true hw] at hia
      subst hia
      refine call_mm [] 1 120 (within_no g hw) ?_ ?_ ?_
      · conv => whnf
        (iterate 3 ((all_goals try (conv => whnf)); (repeat' first | exact True.intro | (refine And.intro ?_ ?_) | rfl | exact fun _ h => h | exact .inl rfl | exact none_some | exact .inr ⟨rfl, rfl, fun _ _ => rfl⟩ | exact .inr ⟨rfl, rfl, lt1 rfl⟩ | exact .inr ⟨rfl, rfl, lt2 rfl rfl⟩ | exact .inr ⟨rfl, rfl, lt3 rfl rfl rfl⟩ | fail)))
      · intro _; conv => whnf
        (iterate 3 ((all_goals try (conv => whnf)); (repeat' first | exact True.intro | (refine And.intro ?_ ?_) | rfl | exact fun _ h => h | exact .inl rfl | exact none_some | exact .inr ⟨rfl, rfl, fun _ _ => rfl⟩ | exact .inr ⟨rfl, rfl, lt1 rfl⟩ | exact .inr ⟨rfl, rfl, lt2 rfl rfl⟩ | exact .inr ⟨rfl, rfl, lt3 rfl rfl rfl⟩ | fail)))
      intro x; conv => whnf
      refine ⟨(), _, rfl, Sub.of_check [((0,0,0), .old true (0,0,0))] ?_ (by repeat' first | exact Gen0.emp | exact Gen0.ofH rfl | refine Gen0.put ?_ (by decide) | refine Gen0.put0 ?_ ⟨_, rfl⟩)⟩
      conv => whnf
      (iterate 3 ((all_goals try (conv => whnf)); (repeat' first | exact True.intro | (refine And.intro ?_ ?_) | rfl | exact fun _ h => h | exact .inl rfl | exact none_some | exact .inr ⟨rfl, rfl, fun _ _ => rfl⟩ | exact .inr ⟨rfl, rfl, lt1 rfl⟩ | exact .inr ⟨rfl, rfl, lt2 rfl rfl⟩ | exact .inr ⟨rfl, rfl, lt3 rfl rfl rfl⟩ | fail)))
    · rw [decide_eq_false hw] at hia
      subst hia
      refine call_mm [] 1 120 (within_yes g hw) ?_ ?_ ?_
      · conv => whnf
        (iterate 3 ((all_goals try (conv => whnf)); (repeat' first | exact True.intro | (refine And.intro ?_ ?_) | rfl | exact fun _ h => h | exact .inl rfl | exact none_some | exact .inr ⟨rfl, rfl, fun _ _ => rfl⟩ | exact .inr ⟨rfl, rfl, lt1 rfl⟩ | exact .inr ⟨rfl, rfl, lt2 rfl rfl⟩ | exact .inr ⟨rfl, rfl, lt3 rfl rfl rfl⟩ | fail)))
      · intro _; conv => whnf
        (iterate 3 ((all_goals try (conv => whnf)); (repeat' first | exact True.intro | (refine And.intro ?_ ?_) | rfl | exact fun _ h => h | exact .inl rfl | exact none_some | exact .inr ⟨rfl, rfl, fun _ _ => rfl⟩ | exact .inr ⟨rfl, rfl, lt1 rfl⟩ | exact .inr ⟨rfl, rfl, lt2 rfl rfl⟩ | exact .inr ⟨rfl, rfl, lt3 rfl rfl rfl⟩ | fail)))
      intro x; conv => whnf
      repeat' first | (refine RegP.enter ?_; conv => whnf) | (refine DrawP.range (by kernel_rfl) ?_; conv => whnf) | (refine BuildP.frz ⟨rfl, ?_⟩; conv => whnf) | (refine BoxP.row ?_; conv => whnf) | (refine And.intro Nat.zero_lt_one ?_; conv => whnf) | (refine And.intro (Nat.succ_pos _) ?_; conv => whnf) | fail
      refine ⟨(), _, rfl, Sub.of_check [((0,0,0), .old true (0,0,0))] ?_ (by repeat' first | exact Gen0.emp | exact Gen0.ofH rfl | refine Gen0.put ?_ (by decide) | refine Gen0.put0 ?_ ⟨_, rfl⟩)⟩
      conv => whnf
      (iterate 3 ((all_goals try (conv => whnf)); (repeat' first | exact True.intro | (refine And.intro ?_ ?_) | rfl | exact fun _ h => h | exact .inl rfl | exact none_some | exact .inr ⟨rfl, rfl, fun _ _ => rfl⟩ | exact .inr ⟨rfl, rfl, lt1 rfl⟩ | exact .inr ⟨rfl, rfl, lt2 rfl rfl⟩ | exact .inr ⟨rfl, rfl, lt3 rfl rfl rfl⟩ | fail)))
  | none =>
    repeat' first | (refine RegP.enter ?_; conv => whnf) | (refine DrawP.range (by kernel_rfl) ?_; conv => whnf) | (refine BuildP.frz ⟨rfl, ?_⟩; conv => whnf) | (refine BoxP.row ?_; conv => whnf) | (refine And.intro Nat.zero_lt_one ?_; conv => whnf) | (refine And.intro (Nat.succ_pos _) ?_; conv => whnf) | (refine call_same (hl0) rfl ?_; conv => whnf) | (refine call_same (anyNothing_ok q) rfl ?_; conv => whnf) | fail
    cases hn : q.any nothingM
    rotate_left
    · rw [hn] at hia
      replace hia : .ok gNull kk = r := hia
      subst hia
      conv => whnf
      repeat' first | (refine RegP.enter ?_; conv => whnf) | (refine DrawP.range (by kernel_rfl) ?_; conv => whnf) | (refine BuildP.frz ⟨rfl, ?_⟩; conv => whnf) | (refine BoxP.row ?_; conv => whnf) | (refine And.intro Nat.zero_lt_one ?_; conv => whnf) | (refine And.intro (Nat.succ_pos _) ?_; conv => whnf) | fail
      refine ⟨(), _, rfl, Sub.of_check [((0,0,0), .old true (0,0,0))] ?_ (by repeat' first | exact Gen0.emp | exact Gen0.ofH rfl | refine Gen0.put ?_ (by decide) | refine Gen0.put0 ?_ ⟨_, rfl⟩)⟩
      conv => whnf
      (iterate 3 ((all_goals try (conv => whnf)); (repeat' first | exact True.intro | (refine And.intro ?_ ?_) | rfl | exact fun _ h => h | exact .inl rfl | exact none_some | exact .inr ⟨rfl, rfl, fun _ _ => rfl⟩ | exact .inr ⟨rfl, rfl, lt1 rfl⟩ | exact .inr ⟨rfl, rfl, lt2 rfl rfl⟩ | exact .inr ⟨rfl, rfl, lt3 rfl rfl rfl⟩ | fail)))
    rw [hn] at hia
    conv => whnf
    repeat' first | (refine RegP.enter ?_; conv => whnf) | (refine DrawP.range (by kernel_rfl) ?_; conv => whnf) | (refine BuildP.frz ⟨rfl, ?_⟩; conv => whnf) | (refine BoxP.row ?_; conv => whnf) | (refine And.intro Nat.zero_lt_one ?_; conv => whnf) | (refine And.intro (Nat.succ_pos _) ?_; conv => whnf) | fail
    obtain ⟨hs, hb⟩ := hst op q doc kk hkk
    replace hia : (match O.st op q kk with | .unk => .unk | .fail e k => .fail e k | .ok g k => withinM g k) = r := hia
    generalize O.st op q kk = rs at *
    cases rs with
    | unk => exact absurd hia.symm hu
    | fail e k' =>
      replace hia : .fail e k' = r := hia
      subst hia
      refine call_mm [((0,0,0), .old true (0,0,0))] 1 128 (hs) ?_ ?_ ?_
      · conv => whnf
        (iterate 3 ((all_goals try (conv => whnf)); (repeat' first | exact True.intro | (refine And.intro ?_ ?_) | rfl | exact fun _ h => h | exact .inl rfl | exact none_some | exact .inr ⟨rfl, rfl, fun _ _ => rfl⟩ | exact .inr ⟨rfl, rfl, lt1 rfl⟩ | exact .inr ⟨rfl, rfl, lt2 rfl rfl⟩ | exact .inr ⟨rfl, rfl, lt3 rfl rfl rfl⟩ | fail)))
      · intro _; conv => whnf
        (iterate 3 ((all_goals try (conv => whnf)); (repeat' first | exact True.intro | (refine And.intro ?_ ?_) | rfl | exact fun _ h => h | exact .inl rfl | exact none_some | exact .inr ⟨rfl, rfl, fun _ _ => rfl⟩ | exact .inr ⟨rfl, rfl, lt1 rfl⟩ | exact .inr ⟨rfl, rfl, lt2 rfl rfl⟩ | exact .inr ⟨rfl, rfl, lt3 rfl rfl rfl⟩ | fail)))
      intro x; conv => whnf
      refine ⟨(), _, rfl, Sub.of_check [((0,0,0), .old true (0,0,0))] ?_ (by repeat' first | exact Gen0.emp | exact Gen0.ofH rfl | refine Gen0.put ?_ (by decide) | refine Gen0.put0 ?_ ⟨_, rfl⟩)⟩
      conv => whnf
      (iterate 3 ((all_goals try (conv => whnf)); (repeat' first | exact True.intro | (refine And.intro ?_ ?_) | rfl | exact fun _ h => h | exact .inl rfl | exact none_some | exact .inr ⟨rfl, rfl, fun _ _ => rfl⟩ | exact .inr ⟨rfl, rfl, lt1 rfl⟩ | exact .inr ⟨rfl, rfl, lt2 rfl rfl⟩ | exact .inr ⟨rfl, rfl, lt3 rfl rfl rfl⟩ | fail)))
    | ok g k' =>
      replace hia : withinM g k' = r := hia
      refine call_mm [((0,0,0), .old true (0,0,0))] 1 128 (hs) ?_ ?_ ?_
      · conv => whnf
        (iterate 3 ((all_goals try (conv => whnf)); (repeat' first | exact True.intro | (refine And.intro ?_ ?_) | rfl | exact fun _ h => h | exact .inl rfl | exact none_some | exact .inr ⟨rfl, rfl, fun _ _ => rfl⟩ | exact .inr ⟨rfl, rfl, lt1 rfl⟩ | exact .inr ⟨rfl, rfl, lt2 rfl rfl⟩ | exact .inr ⟨rfl, rfl, lt3 rfl rfl rfl⟩ | fail)))
      · intro _; conv => whnf
        (iterate 3 ((all_goals try (conv => whnf)); (repeat' first | exact True.intro | (refine And.intro ?_ ?_) | rfl | exact fun _ h => h | exact .inl rfl | exact none_some | exact .inr ⟨rfl, rfl, fun _ _ => rfl⟩ | exact .inr ⟨rfl, rfl, lt1 rfl⟩ | exact .inr ⟨rfl, rfl, lt2 rfl rfl⟩ | exact .inr ⟨rfl, rfl, lt3 rfl rfl rfl⟩ | fail)))
      intro x; conv => whnf
      repeat' first | (refine RegP.enter ?_; conv => whnf) | (refine DrawP.range (by kernel_rfl) ?_; conv => whnf) | (refine BuildP.frz ⟨rfl, ?_⟩; conv => whnf) | (refine BoxP.row ?_; conv => whnf) | (refine And.intro Nat.zero_lt_one ?_; conv => whnf) | (refine And.intro (Nat.succ_pos _) ?_; conv => whnf) | fail
      unfold withinM at hia
      by_cases hw : 65536 < g.sz
      · rw [decide_eq_true hw] at hia
        subst hia
        refine call_mm [] 1 129 (within_no g hw) ?_ ?_ ?_
        · conv => whnf
          (iterate 3 ((all_goals try (conv => whnf)); (repeat' first | exact True.intro | (refine And.intro ?_ ?_) | rfl | exact fun _ h => h | exact .inl rfl | exact none_some | exact .inr ⟨rfl, rfl, fun _ _ => rfl⟩ | exact .inr ⟨rfl, rfl, lt1 rfl⟩ | exact .inr ⟨rfl, rfl, lt2 rfl rfl⟩ | exact .inr ⟨rfl, rfl, lt3 rfl rfl rfl⟩ | fail)))
        · intro _; conv => whnf
          (iterate 3 ((all_goals try (conv => whnf)); (repeat' first | exact True.intro | (refine And.intro ?_ ?_) | rfl | exact fun _ h => h | exact .inl rfl | exact none_some | exact .inr ⟨rfl, rfl, fun _ _ => rfl⟩ | exact .inr ⟨rfl, rfl, lt1 rfl⟩ | exact .inr ⟨rfl, rfl, lt2 rfl rfl⟩ | exact .inr ⟨rfl, rfl, lt3 rfl rfl rfl⟩ | fail)))
        intro x; conv => whnf
        refine ⟨(), _, rfl, Sub.of_check [((0,0,0), .old true (0,0,0))] ?_ (by repeat' first | exact Gen0.emp | exact Gen0.ofH rfl | refine Gen0.put ?_ (by decide) | refine Gen0.put0 ?_ ⟨_, rfl⟩)⟩
        conv => whnf
        (iterate 3 ((all_goals try (conv => whnf)); (repeat' first | exact True.intro | (refine And.intro ?_ ?_) | rfl | exact fun _ h => h | exact .inl rfl | exact none_some | exact .inr ⟨rfl, rfl, fun _ _ => rfl⟩ | exact .inr ⟨rfl, rfl, lt1 rfl⟩ | exact .inr ⟨rfl, rfl, lt2 rfl rfl⟩ | exact .inr ⟨rfl, rfl, lt3 rfl rfl rfl⟩ | fail)))
      · rw [decide_eq_false hw] at hia
        subst hia
        refine call_mm [] 1 129 (within_yes g hw) ?_ ?_ ?_
        · conv => whnf
          (iterate 3 ((all_goals try (conv => whnf)); (repeat' first | exact True.intro | (refine And.intro ?_ ?_) | rfl | exact fun _ h => h | exact .inl rfl | exact none_some | exact .inr ⟨rfl, rfl, fun _ _ => rfl⟩ | exact .inr ⟨rfl, rfl, lt1 rfl⟩ | exact .inr ⟨rfl, rfl, lt2 rfl rfl⟩ | exact .inr ⟨rfl, rfl, lt3 rfl rfl rfl⟩ | fail)))
        · intro _; conv => whnf
          (iterate 3 ((all_goals try (conv => whnf)); (repeat' first | exact True.intro | (refine And.intro ?_ ?_) | rfl | exact fun _ h => h | exact .inl rfl | exact none_some | exact .inr ⟨rfl, rfl, fun _ _ => rfl⟩ | exact .inr ⟨rfl, rfl, lt1 rfl⟩ | exact .inr ⟨rfl, rfl, lt2 rfl rfl⟩ | exact .inr ⟨rfl, rfl, lt3 rfl rfl rfl⟩ | fail)))
        intro x; conv => whnf
        repeat' first | (refine RegP.enter ?_; conv => whnf) | (refine DrawP.range (by kernel_rfl) ?_; conv => whnf) | (refine BuildP.frz ⟨rfl, ?_⟩; conv => whnf) | (refine BoxP.row ?_; conv => whnf) | (refine And.intro Nat.zero_lt_one ?_; conv => whnf) | (refine And.intro (Nat.succ_pos _) ?_; conv => whnf) | fail
        refine ⟨(), _, rfl, Sub.of_check [((0,0,0), .old true (0,0,0))] ?_ (by repeat' first | exact Gen0.emp | exact Gen0.ofH rfl | refine Gen0.put ?_ (by decide) | refine Gen0.put0 ?_ ⟨_, rfl⟩)⟩
        conv => whnf
        (iterate 3 ((all_goals try (conv => whnf)); (repeat' first | exact True.intro | (refine And.intro ?_ ?_) | rfl | exact fun _ h => h | exact .inl rfl | exact none_some | exact .inr ⟨rfl, rfl, fun _ _ => rfl⟩ | exact .inr ⟨rfl, rfl, lt1 rfl⟩ | exact .inr ⟨rfl, rfl, lt2 rfl rfl⟩ | exact .inr ⟨rfl, rfl, lt3 rfl rfl rfl⟩ | fail)))
end Go.Eng

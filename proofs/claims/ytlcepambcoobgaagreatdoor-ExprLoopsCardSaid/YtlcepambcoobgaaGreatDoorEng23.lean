/- Eng23: an engine for the program's code, and walks of its functions (Wy Wz Xa Xb Xc Xd). -/
import Derived.Test.YtlcepambcoobgaaGreatDoorEng22
import Derived.WalkKit
import Derived.Defers
import Derived.Recover
namespace Go.Eng
open Go.Proofs
set_option maxRecDepth 10000
theorem want_ok (l : List GV) (hl : allKind 3 l = true) : PSpec cxA 404 [.int 3, .lz (.gl l)] (.ret (.tup [])) := by
  have h3 : ∀ i, i < l.length → (l.getD i default).kind = 3 := by
    intro i hi
    have e : l.getD i default = l[i] := by simp [List.getD_eq_getElem?_getD, List.getElem?_eq_getElem hi]
    have := List.all_eq_true.1 hl (l.getD i default) (by rw [e]; exact List.getElem_mem hi)
    simpa using this
  refine PSpec.of_WC cxA_ok Tryz.func404 rfl Tryz.call404 (Nat.le_of_ble_eq_true rfl) (g := 1) ?_
  conv => whnf
  repeat' ((first | refine RegP.enter ?_ | refine DrawP.range (by kernel_rfl) ?_ | refine BuildP.frz ⟨rfl, ?_⟩ | refine BoxP.row ?_ | refine And.intro (Nat.succ_pos _) ?_ | fail); conv => whnf)
  refine ⟨2, {i : Nat // i ≤ l.length}, fun i => ([(0, .int 3), (6, .lz (.gl l)), (7, .int l.length), (8, .int i.1)], []), fun i => l.length - i.1, ⟨⟨0, Nat.zero_le _⟩, Sub.of_check [] ?_ (by repeat' first | exact Gen0.emp | exact Gen0.ofH rfl | refine Gen0.put ?_ (by decide) | refine Gen0.put0 ?_ ⟨_, rfl⟩)⟩, fun ⟨i, hi⟩ => ?_⟩
  · conv => whnf
    (iterate 3 ((all_goals try (conv => whnf)); (repeat' first | exact ⟨⟩ | refine And.intro ?_ ?_ | rfl | exact fun _ h => h | exact .inl rfl | exact none_some | exact .inr in4 | fail)))
  conv => whnf
  refine RegP.go fun hf => ?_
  conv => whnf
  refine br (fun hl1 => ?_) (fun hl1 => ?_)
  rotate_left
  · try rw [hl1]
    conv => whnf
    repeat' ((first | refine RegP.enter ?_ | refine DrawP.range (by kernel_rfl) ?_ | refine BuildP.frz ⟨rfl, ?_⟩ | refine BoxP.row ?_ | refine And.intro (Nat.succ_pos _) ?_ | fail); conv => whnf)
    refine Ent.of_check ?_ rfl
    conv => whnf
    (iterate 3 ((all_goals try (conv => whnf)); (repeat' first | exact ⟨⟩ | refine And.intro ?_ ?_ | rfl | exact fun _ h => h | exact .inl rfl | exact none_some | exact .inr in4 | fail)))
  have hlt : i < l.length := Int.ofNat_lt.1 (of_decide_eq_true hl1)
  have hR := le_of_mul (k := 79) (hf.lz 6 _ _ _ _ _ _ rfl rfl)
  try rw [hl1]
  conv => whnf
  repeat' ((first | refine RegP.enter ?_ | refine DrawP.range (by kernel_rfl) ?_ | refine BuildP.frz ⟨rfl, ?_⟩ | refine BoxP.row ?_ | refine And.intro (Nat.succ_pos _) ?_ | fail); conv => whnf)
  refine And.intro (hlt) ?_
  conv => whnf
  refine And.intro (hlt) ?_
  conv => whnf
  repeat' ((first | refine RegP.enter ?_ | refine DrawP.range (by kernel_rfl) ?_ | refine BuildP.frz ⟨rfl, ?_⟩ | refine BoxP.row ?_ | refine And.intro (Nat.succ_pos _) ?_ | fail); conv => whnf)
  rw [h3 i hlt]
  conv => whnf
  repeat' ((first | refine RegP.enter ?_ | refine DrawP.range (by kernel_rfl) ?_ | refine BuildP.frz ⟨rfl, ?_⟩ | refine BoxP.row ?_ | refine And.intro (Nat.succ_pos _) ?_ | fail); conv => whnf)
  refine ⟨⟨i + 1, hlt⟩, (by show l.length - (i + 1) < l.length - i; omega), Sub.of_check [] ?_ (by repeat' first | exact Gen0.emp | exact Gen0.ofH rfl | refine Gen0.put ?_ (by decide) | refine Gen0.put0 ?_ ⟨_, rfl⟩)⟩
  conv => whnf
  (iterate 3 ((all_goals try (conv => whnf)); (repeat' first | exact ⟨⟩ | refine And.intro ?_ ?_ | rfl | exact fun _ h => h | exact .inl rfl | exact none_some | exact .inr in4 | fail)))
  all_goals exact wrap_succ hlt hR
theorem div_zero (op : ByteArray) (a : Int) : MSpec cxA 407 [.str op, .int a, .int 0] [] (fun _ : Unit => .pan (stopAV 53)) (fun _ => []) := by
  refine MSpec.of_WC cxA_ok Tryz.func407 rfl Tryz.call407 (Nat.le_of_ble_eq_true rfl) (g := 1) ?_
  conv => whnf
  repeat' ((first | refine RegP.enter ?_ | refine DrawP.range (by kernel_rfl) ?_ | refine BuildP.frz ⟨rfl, ?_⟩ | refine BoxP.row ?_ | refine And.intro (Nat.succ_pos _) ?_ | fail); conv => whnf)
  refine call_mm [] 1 10 (fail_ok 53) ?_ ?_ ?_
  · conv => whnf
    (iterate 3 ((all_goals try (conv => whnf)); (repeat' first | exact ⟨⟩ | refine And.intro ?_ ?_ | rfl | exact fun _ h => h | exact .inl rfl | exact none_some | exact .inr in4 | fail)))
  · intro _; conv => whnf
    (iterate 3 ((all_goals try (conv => whnf)); (repeat' first | exact ⟨⟩ | refine And.intro ?_ ?_ | rfl | exact fun _ h => h | exact .inl rfl | exact none_some | exact .inr in4 | fail)))
  intro x; conv => whnf
  refine ⟨(), _, rfl, Sub.of_check [] ?_ (by repeat' first | exact Gen0.emp | exact Gen0.ofH rfl | refine Gen0.put ?_ (by decide) | refine Gen0.put0 ?_ ⟨_, rfl⟩)⟩
  conv => whnf
  (iterate 3 ((all_goals try (conv => whnf)); (repeat' first | exact ⟨⟩ | refine And.intro ?_ ?_ | rfl | exact fun _ h => h | exact .inl rfl | exact none_some | exact .inr in4 | fail)))
theorem mod_ok (a b : Int) (h0 : ¬ b = 0) : PSpec cxA 407 [.str oMod, .int a, .int b] (.ret (.agg (gInt (a.tmod b)).cells)) := by
  generalize hr : gInt (a.tmod b) = r
  refine PSpec.of_WC cxA_ok Tryz.func407 rfl Tryz.call407 (Nat.le_of_ble_eq_true rfl) (g := 1) ?_
  conv => whnf
  repeat' ((first | refine RegP.enter ?_ | refine DrawP.range (by kernel_rfl) ?_ | refine BuildP.frz ⟨rfl, ?_⟩ | refine BoxP.row ?_ | refine And.intro (Nat.succ_pos _) ?_ | fail); conv => whnf)
  refine br (fun hz => ?_) (fun hz => ?_)
  · exact absurd (show b = 0 by simpa using hz) h0
  try rw [hz]
  conv => whnf
  repeat' ((first | refine RegP.enter ?_ | refine DrawP.range (by kernel_rfl) ?_ | refine BuildP.frz ⟨rfl, ?_⟩ | refine BoxP.row ?_ | refine And.intro (Nat.succ_pos _) ?_ | fail); conv => whnf)
  refine br (fun h1 => ?_) (fun h1 => ?_)
  · have h1' : b = -1 := by simpa using h1
    subst h1'
    try rw [h1]
    conv => whnf
    repeat' ((first | refine RegP.enter ?_ | refine DrawP.range (by kernel_rfl) ?_ | refine BuildP.frz ⟨rfl, ?_⟩ | refine BoxP.row ?_ | refine And.intro (Nat.succ_pos _) ?_ | refine call_same (number_ok 0) rfl ?_ | fail); conv => whnf)
    have : gInt 0 = r := by rw [← hr]; simp
    rw [← this]
    refine Ent.of_check ?_ rfl
    conv => whnf
    (iterate 3 ((all_goals try (conv => whnf)); (repeat' first | exact ⟨⟩ | refine And.intro ?_ ?_ | rfl | exact fun _ h => h | exact .inl rfl | exact none_some | exact .inr in4 | fail)))
  · try rw [h1]
    conv => whnf
    repeat' ((first | refine RegP.enter ?_ | refine DrawP.range (by kernel_rfl) ?_ | refine BuildP.frz ⟨rfl, ?_⟩ | refine BoxP.row ?_ | refine And.intro (Nat.succ_pos _) ?_ | fail); conv => whnf)
    refine br (fun h2 => ?_) (fun h2 => ?_)
    · rw [h1] at h2
      cases h2
    try rw [h2]
    conv => whnf
    repeat' ((first | refine RegP.enter ?_ | refine DrawP.range (by kernel_rfl) ?_ | refine BuildP.frz ⟨rfl, ?_⟩ | refine BoxP.row ?_ | refine And.intro (Nat.succ_pos _) ?_ | fail); conv => whnf)
    refine And.intro (h0) ?_
    conv => whnf
    repeat' ((first | refine RegP.enter ?_ | refine DrawP.range (by kernel_rfl) ?_ | refine BuildP.frz ⟨rfl, ?_⟩ | refine BoxP.row ?_ | refine And.intro (Nat.succ_pos _) ?_ | refine call_same (number_ok (a.tmod b)) rfl ?_ | fail); conv => whnf)
    subst hr
    refine Ent.of_check ?_ rfl
    conv => whnf
    (iterate 3 ((all_goals try (conv => whnf)); (repeat' first | exact ⟨⟩ | refine And.intro ?_ ?_ | rfl | exact fun _ h => h | exact .inl rfl | exact none_some | exact .inr in4 | fail)))
theorem tdiv_in {a b : Int} (ha : inInt a = true) (h0 : ¬ b = 0) (h1 : ¬ b = -1) : inInt (a.tdiv b) = true := by
  have ha := inInt_iff.1 ha
  rw [inInt_iff]
  by_cases hb : b = 1
  · subst hb; rw [Int.tdiv_one]; exact ha
  have h2 : 2 ≤ b.natAbs := by omega
  have h3 : (a.tdiv b).natAbs = a.natAbs / b.natAbs := Int.natAbs_tdiv a b
  have h4 : a.natAbs / b.natAbs ≤ a.natAbs / 2 := Nat.div_le_div_left h2 (by omega)
  omega
theorem div_yes (a b : Int) (ha : inInt a = true) (h0 : ¬ b = 0) (h : inInt (a.tdiv b) = true) : PSpec cxA 407 [.str oDivide, .int a, .int b] (.ret (.agg (gInt (a.tdiv b)).cells)) := by
  have hw : IntKind.i64.wrap (a.tdiv b) = a.tdiv b := by have := inInt_iff.1 h; exact wrap64 (by omega) (by omega)
  generalize hr : gInt (a.tdiv b) = r
  refine PSpec.of_WC cxA_ok Tryz.func407 rfl Tryz.call407 (Nat.le_of_ble_eq_true rfl) (g := 1) ?_
  conv => whnf
  repeat' ((first | refine RegP.enter ?_ | refine DrawP.range (by kernel_rfl) ?_ | refine BuildP.frz ⟨rfl, ?_⟩ | refine BoxP.row ?_ | refine And.intro (Nat.succ_pos _) ?_ | fail); conv => whnf)
  refine br (fun hz => ?_) (fun hz => ?_)
  · exact absurd (show b = 0 by simpa using hz) h0
  try rw [hz]
  conv => whnf
  repeat' ((first | refine RegP.enter ?_ | refine DrawP.range (by kernel_rfl) ?_ | refine BuildP.frz ⟨rfl, ?_⟩ | refine BoxP.row ?_ | refine And.intro (Nat.succ_pos _) ?_ | fail); conv => whnf)
  refine br (fun h1 => ?_) (fun h1 => ?_)
  · have h1' : b = -1 := by simpa using h1
    subst h1'
    have e : a.tdiv (-1) = 0 - a := by rw [Int.tdiv_neg, Int.tdiv_one]; omega
    rw [e] at hr h
    try rw [h1]
    conv => whnf
    repeat' ((first | refine RegP.enter ?_ | refine DrawP.range (by kernel_rfl) ?_ | refine BuildP.frz ⟨rfl, ?_⟩ | refine BoxP.row ?_ | refine And.intro (Nat.succ_pos _) ?_ | refine call_same (minus_yes 0 a (by decide) ha h) rfl ?_ | refine call_same (number_ok (0 - a)) rfl ?_ | fail); conv => whnf)
    subst hr
    refine Ent.of_check ?_ rfl
    conv => whnf
    (iterate 3 ((all_goals try (conv => whnf)); (repeat' first | exact ⟨⟩ | refine And.intro ?_ ?_ | rfl | exact fun _ h => h | exact .inl rfl | exact none_some | exact .inr in4 | fail)))
  · try rw [h1]
    conv => whnf
    repeat' ((first | refine RegP.enter ?_ | refine DrawP.range (by kernel_rfl) ?_ | refine BuildP.frz ⟨rfl, ?_⟩ | refine BoxP.row ?_ | refine And.intro (Nat.succ_pos _) ?_ | fail); conv => whnf)
    refine br (fun h2 => ?_) (fun h2 => ?_)
    · rw [h1] at h2
      cases h2
    try rw [h2]
    conv => whnf
    repeat' ((first | refine RegP.enter ?_ | refine DrawP.range (by kernel_rfl) ?_ | refine BuildP.frz ⟨rfl, ?_⟩ | refine BoxP.row ?_ | refine And.intro (Nat.succ_pos _) ?_ | fail); conv => whnf)
    refine And.intro (h0) ?_
    conv => whnf
    rw [hw]
    conv => whnf
    repeat' ((first | refine RegP.enter ?_ | refine DrawP.range (by kernel_rfl) ?_ | refine BuildP.frz ⟨rfl, ?_⟩ | refine BoxP.row ?_ | refine And.intro (Nat.succ_pos _) ?_ | refine call_same (number_ok (a.tdiv b)) rfl ?_ | fail); conv => whnf)
    subst hr
    refine Ent.of_check ?_ rfl
    conv => whnf
    (iterate 3 ((all_goals try (conv => whnf)); (repeat' first | exact ⟨⟩ | refine And.intro ?_ ?_ | rfl | exact fun _ h => h | exact .inl rfl | exact none_some | exact .inr in4 | fail)))
theorem div_no (a b : Int) (ha : inInt a = true) (h0 : ¬ b = 0) (h : inInt (a.tdiv b) = false) : MSpec cxA 407 [.str oDivide, .int a, .int b] [] (fun _ : Unit => .pan (stopAV 52)) (fun _ => []) := by
  by_cases h1' : b = -1
  rotate_left
  · rw [tdiv_in ha h0 h1'] at h
    cases h
  subst h1'
  have e : a.tdiv (-1) = 0 - a := by rw [Int.tdiv_neg, Int.tdiv_one]; omega
  rw [e] at h
  refine MSpec.of_WC cxA_ok Tryz.func407 rfl Tryz.call407 (Nat.le_of_ble_eq_true rfl) (g := 1) ?_
  conv => whnf
  repeat' ((first | refine RegP.enter ?_ | refine DrawP.range (by kernel_rfl) ?_ | refine BuildP.frz ⟨rfl, ?_⟩ | refine BoxP.row ?_ | refine And.intro (Nat.succ_pos _) ?_ | fail); conv => whnf)
  refine call_mm [] 1 23 (minus_no 0 a (by decide) ha h) ?_ ?_ ?_
  · conv => whnf
    (iterate 3 ((all_goals try (conv => whnf)); (repeat' first | exact ⟨⟩ | refine And.intro ?_ ?_ | rfl | exact fun _ h => h | exact .inl rfl | exact none_some | exact .inr in4 | fail)))
  · intro _; conv => whnf
    (iterate 3 ((all_goals try (conv => whnf)); (repeat' first | exact ⟨⟩ | refine And.intro ?_ ?_ | rfl | exact fun _ h => h | exact .inl rfl | exact none_some | exact .inr in4 | fail)))
  intro x; conv => whnf
  refine ⟨(), _, rfl, Sub.of_check [] ?_ (by repeat' first | exact Gen0.emp | exact Gen0.ofH rfl | refine Gen0.put ?_ (by decide) | refine Gen0.put0 ?_ ⟨_, rfl⟩)⟩
  conv => whnf
  (iterate 3 ((all_goals try (conv => whnf)); (repeat' first | exact ⟨⟩ | refine And.intro ?_ ?_ | rfl | exact fun _ h => h | exact .inl rfl | exact none_some | exact .inr in4 | fail)))
end Go.Eng
namespace Go.Eng
open Go.Proofs
set_option maxRecDepth 10000
theorem sumL_k : ∀ (l : List GV) (n k : Int), kOf (numR (sumL n l k)) = k
  | [], _, _ => rfl
  | v :: l, n, k => by
    unfold sumL
    cases inInt (n + v.int) with
    | true => exact sumL_k l _ k
    | false => rfl
theorem mulL_k : ∀ (l : List GV) (n k : Int), kOf (numR (mulL n l k)) = k
  | [], _, _ => rfl
  | v :: l, n, k => by
    unfold mulL
    cases inInt (n * v.int) with
    | true => exact mulL_k l _ k
    | false => rfl
theorem sumL_drop {l : List GV} {n k : Int} {i : Nat} (h : i < l.length) : sumL n (l.drop i) k = (match inInt (n + (l.getD i default).int) with | true => sumL (n + (l.getD i default).int) (l.drop (i + 1)) k | false => .fail 52 k) := by
  have e : l.getD i default = l[i] := by simp [List.getD_eq_getElem?_getD, List.getElem?_eq_getElem h]
  rw [List.drop_eq_getElem_cons h, e, sumL]; rfl
theorem mulL_drop {l : List GV} {n k : Int} {i : Nat} (h : i < l.length) : mulL n (l.drop i) k = (match inInt (n * (l.getD i default).int) with | true => mulL (n * (l.getD i default).int) (l.drop (i + 1)) k | false => .fail 52 k) := by
  have e : l.getD i default = l[i] := by simp [List.getD_eq_getElem?_getD, List.getElem?_eq_getElem h]
  rw [List.drop_eq_getElem_cons h, e, mulL]; rfl
theorem mem_getD {l : List GV} {i : Nat} (h : i < l.length) : l.getD i default ∈ l := by
  have e : l.getD i default = l[i] := by simp [List.getD_eq_getElem?_getD, List.getElem?_eq_getElem h]
  rw [e]; exact List.getElem_mem h
theorem tail_lz {v : GV} {l : List GV} : ∀ i, i < (v :: l).length - (0 + 1) → (fun i => (fun i => ((v :: l).getD i default).cells) (0 + 1 + i)) i = (fun i => (l.getD i default).cells) i := by
  intro i _
  show ((v :: l).getD (0 + 1 + i) default).cells = _
  rw [Nat.zero_add, Nat.add_comm 1 i]; rfl
theorem added_ok (v : GV) (l : List GV) (hk : allKind 3 (v :: l) = true) (hi : ∀ g, g ∈ v :: l → inInt g.int = true) (k : Int) : MSpec cxA 402 [.lz (.gl (v :: l))] [] (fun _ : Unit => outOf (numR (sumL v.int l k))) (fun _ => []) := by
  have h3 : ∀ i, i < (v :: l).length → ((v :: l).getD i default).kind = 3 := by
    intro i hi
    simpa using List.all_eq_true.1 hk _ (mem_getD hi)
  generalize hr : numR (sumL v.int l k) = r
  refine MSpec.of_WC cxA_ok Tryz.func402 rfl Tryz.call402 (Nat.le_of_ble_eq_true rfl) (g := 1) ?_
  conv => whnf
  repeat' ((first | refine RegP.enter ?_ | refine DrawP.range (by kernel_rfl) ?_ | refine BuildP.frz ⟨rfl, ?_⟩ | refine BoxP.row ?_ | refine And.intro (Nat.succ_pos _) ?_ | fail); conv => whnf)
  refine ⟨2, {i : Nat // i ≤ (v :: l).length}, fun i => ([(0, .lz (.gl (v :: l))), (2, .ptr (1,2,0) 0 0), (3, .int 3), (9, .lz (.gl (v :: l))), (10, .int (v :: l).length), (11, .int i.1)], [((1,2,0), .cells 5 80 [[.int 0, .int 0, .str ⟨#[]⟩, .nil, .nil]])]), fun i => (v :: l).length - i.1, ⟨⟨0, Nat.zero_le _⟩, Sub.of_check [((1,2,0), .old true (1,2,0))] ?_ (by repeat' first | exact Gen0.emp | exact Gen0.ofH rfl | refine Gen0.put ?_ (by decide) | refine Gen0.put0 ?_ ⟨_, rfl⟩)⟩, fun ⟨i, hil⟩ => ?_⟩
  · conv => whnf
    (iterate 3 ((all_goals try (conv => whnf)); (repeat' first | exact ⟨⟩ | refine And.intro ?_ ?_ | rfl | exact fun _ h => h | exact .inl rfl | exact none_some | exact .inr in4 | fail)))
  conv => whnf
  refine RegP.go fun hf => ?_
  conv => whnf
  refine br (fun hl1 => ?_) (fun hl1 => ?_)
  · have hlt : i < (v :: l).length := Int.ofNat_lt.1 (of_decide_eq_true hl1)
    have hR := le_of_mul (k := 79) (hf.lz 9 _ _ _ _ _ _ rfl rfl)
    try rw [hl1]
    conv => whnf
    repeat' ((first | refine RegP.enter ?_ | refine DrawP.range (by kernel_rfl) ?_ | refine BuildP.frz ⟨rfl, ?_⟩ | refine BoxP.row ?_ | refine And.intro (Nat.succ_pos _) ?_ | fail); conv => whnf)
    refine And.intro (hlt) ?_
    conv => whnf
    refine And.intro (hlt) ?_
    conv => whnf
    repeat' ((first | refine RegP.enter ?_ | refine DrawP.range (by kernel_rfl) ?_ | refine BuildP.frz ⟨rfl, ?_⟩ | refine BoxP.row ?_ | refine And.intro (Nat.succ_pos _) ?_ | fail); conv => whnf)
    rw [h3 i hlt]
    conv => whnf
    repeat' ((first | refine RegP.enter ?_ | refine DrawP.range (by kernel_rfl) ?_ | refine BuildP.frz ⟨rfl, ?_⟩ | refine BoxP.row ?_ | refine And.intro (Nat.succ_pos _) ?_ | fail); conv => whnf)
    refine ⟨⟨i + 1, hlt⟩, (by show (v :: l).length - (i + 1) < (v :: l).length - i; omega), Sub.of_check [((1,2,0), .old true (1,2,0))] ?_ (by repeat' first | exact Gen0.emp | exact Gen0.ofH rfl | refine Gen0.put ?_ (by decide) | refine Gen0.put0 ?_ ⟨_, rfl⟩)⟩
    conv => whnf
    (iterate 3 ((all_goals try (conv => whnf)); (repeat' first | exact ⟨⟩ | refine And.intro ?_ ?_ | rfl | exact fun _ h => h | exact .inl rfl | exact none_some | exact .inr in4 | fail)))
    all_goals exact wrap_succ hlt hR
  try rw [hl1]
  conv => whnf
  repeat' ((first | refine RegP.enter ?_ | refine DrawP.range (by kernel_rfl) ?_ | refine BuildP.frz ⟨rfl, ?_⟩ | refine BoxP.row ?_ | refine And.intro (Nat.succ_pos _) ?_ | fail); conv => whnf)
  refine ⟨3, {q : Int × Nat // q.2 ≤ l.length ∧ inInt q.1 = true ∧ numR (sumL q.1 (l.drop q.2) k) = r}, fun i => ([(2, .ptr (1,2,0) 0 0), (3, .int 3), (6, .int i.1.1), (34, .lz (.gl l)), (35, .int l.length), (36, .int i.1.2)], [((1,2,0), .cells 5 80 [[.int 0, .int 0, .str ⟨#[]⟩, .nil, .nil]])]), fun i => l.length - i.1.2, ⟨⟨(v.int, 0), Nat.zero_le _, hi v (by simp), hr⟩, Sub.of_check [((1,2,0), .old true (1,2,0))] ?_ (by repeat' first | exact Gen0.emp | exact Gen0.ofH rfl | refine Gen0.put ?_ (by decide) | refine Gen0.put0 ?_ ⟨_, rfl⟩)⟩, fun ⟨⟨n, i⟩, hi2, hn, hia⟩ => ?_⟩
  · conv => whnf
    (iterate 3 ((all_goals try (conv => whnf)); (repeat' first | exact ⟨⟩ | refine And.intro ?_ ?_ | rfl | exact fun _ h => h | exact .inl rfl | exact none_some | exact .inr in4 | fail)))
    all_goals first | exact .inr ⟨rfl, rfl, tail_lz⟩ | (simp; done) | trace_state
  conv => whnf
  refine RegP.go fun hf => ?_
  conv => whnf
  refine br (fun hl2 => ?_) (fun hl2 => ?_)
  · have hlt : i < l.length := Int.ofNat_lt.1 (of_decide_eq_true hl2)
    have hR := le_of_mul (k := 79) (hf.lz 34 _ _ _ _ _ _ rfl rfl)
    try rw [hl2]
    conv => whnf
    repeat' ((first | refine RegP.enter ?_ | refine DrawP.range (by kernel_rfl) ?_ | refine BuildP.frz ⟨rfl, ?_⟩ | refine BoxP.row ?_ | refine And.intro (Nat.succ_pos _) ?_ | fail); conv => whnf)
    refine And.intro (hlt) ?_
    conv => whnf
    refine And.intro (hlt) ?_
    conv => whnf
    repeat' ((first | refine RegP.enter ?_ | refine DrawP.range (by kernel_rfl) ?_ | refine BuildP.frz ⟨rfl, ?_⟩ | refine BoxP.row ?_ | refine And.intro (Nat.succ_pos _) ?_ | fail); conv => whnf)
    have hxi := hi (l.getD i default) (List.mem_cons_of_mem _ (mem_getD hlt))
    replace hia : numR (sumL n (l.drop i) k) = r := hia
    rw [sumL_drop hlt] at hia
    cases hs : inInt (n + (l.getD i default).int)
    · rw [hs] at hia
      replace hia : .fail 52 k = r := hia
      subst hia
      refine call_mm [] 3 43 (plus_no n (l.getD i default).int hn hxi hs) ?_ ?_ ?_
      · conv => whnf
        (iterate 3 ((all_goals try (conv => whnf)); (repeat' first | exact ⟨⟩ | refine And.intro ?_ ?_ | rfl | exact fun _ h => h | exact .inl rfl | exact none_some | exact .inr in4 | fail)))
      · intro _; conv => whnf
        (iterate 3 ((all_goals try (conv => whnf)); (repeat' first | exact ⟨⟩ | refine And.intro ?_ ?_ | rfl | exact fun _ h => h | exact .inl rfl | exact none_some | exact .inr in4 | fail)))
      intro x; conv => whnf
      refine ⟨(), _, rfl, Sub.of_check [] ?_ (by repeat' first | exact Gen0.emp | exact Gen0.ofH rfl | refine Gen0.put ?_ (by decide) | refine Gen0.put0 ?_ ⟨_, rfl⟩)⟩
      conv => whnf
      (iterate 3 ((all_goals try (conv => whnf)); (repeat' first | exact ⟨⟩ | refine And.intro ?_ ?_ | rfl | exact fun _ h => h | exact .inl rfl | exact none_some | exact .inr in4 | fail)))
    · rw [hs] at hia
      repeat' ((first | refine RegP.enter ?_ | refine DrawP.range (by kernel_rfl) ?_ | refine BuildP.frz ⟨rfl, ?_⟩ | refine BoxP.row ?_ | refine And.intro (Nat.succ_pos _) ?_ | refine call_same (plus_yes n (l.getD i default).int hn hxi hs) rfl ?_ | fail); conv => whnf)
      refine ⟨⟨(n + (l.getD i default).int, i + 1), hlt, hs, hia⟩, (by show l.length - (i + 1) < l.length - i; omega), Sub.of_check [((1,2,0), .old true (1,2,0))] ?_ (by repeat' first | exact Gen0.emp | exact Gen0.ofH rfl | refine Gen0.put ?_ (by decide) | refine Gen0.put0 ?_ ⟨_, rfl⟩)⟩
      conv => whnf
      (iterate 3 ((all_goals try (conv => whnf)); (repeat' first | exact ⟨⟩ | refine And.intro ?_ ?_ | rfl | exact fun _ h => h | exact .inl rfl | exact none_some | exact .inr in4 | fail)))
      all_goals exact wrap_succ hlt hR
  have hge : i = l.length := by
    have h' : ¬ ((i : Int) < ((l.length : Nat) : Int)) := of_decide_eq_false hl2
    have : i ≤ l.length := hi2
    omega
  have hia : .ok (gInt n) k = r := by
    rw [← hia]
    show _ = numR (sumL n (l.drop i) k)
    rw [hge, List.drop_length]; rfl
  subst hia
  try rw [hl2]
  conv => whnf
  repeat' ((first | refine RegP.enter ?_ | refine DrawP.range (by kernel_rfl) ?_ | refine BuildP.frz ⟨rfl, ?_⟩ | refine BoxP.row ?_ | refine And.intro (Nat.succ_pos _) ?_ | fail); conv => whnf)
  refine ⟨(), _, rfl, Sub.of_check [] ?_ (by repeat' first | exact Gen0.emp | exact Gen0.ofH rfl | refine Gen0.put ?_ (by decide) | refine Gen0.put0 ?_ ⟨_, rfl⟩)⟩
  conv => whnf
  (iterate 3 ((all_goals try (conv => whnf)); (repeat' first | exact ⟨⟩ | refine And.intro ?_ ?_ | rfl | exact fun _ h => h | exact .inl rfl | exact none_some | exact .inr in4 | fail)))
end Go.Eng
namespace Go.Eng
open Go.Proofs
set_option maxRecDepth 10000
theorem sub_yes (a b : GV) (ka : a.kind = 3) (kb : b.kind = 3) (ha : inInt a.int = true) (hb : inInt b.int = true) (h : inInt (a.int - b.int) = true) : PSpec cxA 403 [.agg a.cells, .agg b.cells] (.ret (.agg (gInt (a.int - b.int)).cells)) := by
  obtain ⟨k1, n1, t1, l1, d1⟩ := a
  obtain ⟨k2, n2, t2, l2, d2⟩ := b
  replace ka : k1 = 3 := ka
  replace kb : k2 = 3 := kb
  subst ka
  subst kb
  refine PSpec.of_WC cxA_ok Tryz.func403 rfl Tryz.call403 (Nat.le_of_ble_eq_true rfl) (g := 1) ?_
  conv => whnf
  repeat' ((first | refine RegP.enter ?_ | refine DrawP.range (by kernel_rfl) ?_ | refine BuildP.frz ⟨rfl, ?_⟩ | refine BoxP.row ?_ | refine And.intro (Nat.succ_pos _) ?_ | refine call_same (minus_yes n1 n2 ha hb h) rfl ?_ | fail); conv => whnf)
  refine Ent.of_check ?_ rfl
  conv => whnf
  (iterate 3 ((all_goals try (conv => whnf)); (repeat' first | exact ⟨⟩ | refine And.intro ?_ ?_ | rfl | exact fun _ h => h | exact .inl rfl | exact none_some | exact .inr in4 | fail)))
theorem sub_no (a b : GV) (ka : a.kind = 3) (kb : b.kind = 3) (ha : inInt a.int = true) (hb : inInt b.int = true) (h : inInt (a.int - b.int) = false) : MSpec cxA 403 [.agg a.cells, .agg b.cells] [] (fun _ : Unit => .pan (stopAV 52)) (fun _ => []) := by
  obtain ⟨k1, n1, t1, l1, d1⟩ := a
  obtain ⟨k2, n2, t2, l2, d2⟩ := b
  replace ka : k1 = 3 := ka
  replace kb : k2 = 3 := kb
  subst ka
  subst kb
  refine MSpec.of_WC cxA_ok Tryz.func403 rfl Tryz.call403 (Nat.le_of_ble_eq_true rfl) (g := 1) ?_
  conv => whnf
  repeat' ((first | refine RegP.enter ?_ | refine DrawP.range (by kernel_rfl) ?_ | refine BuildP.frz ⟨rfl, ?_⟩ | refine BoxP.row ?_ | refine And.intro (Nat.succ_pos _) ?_ | fail); conv => whnf)
  refine call_mm [] 1 37 (minus_no n1 n2 ha hb h) ?_ ?_ ?_
  · conv => whnf
    (iterate 3 ((all_goals try (conv => whnf)); (repeat' first | exact ⟨⟩ | refine And.intro ?_ ?_ | rfl | exact fun _ h => h | exact .inl rfl | exact none_some | exact .inr in4 | fail)))
  · intro _; conv => whnf
    (iterate 3 ((all_goals try (conv => whnf)); (repeat' first | exact ⟨⟩ | refine And.intro ?_ ?_ | rfl | exact fun _ h => h | exact .inl rfl | exact none_some | exact .inr in4 | fail)))
  intro x; conv => whnf
  refine ⟨(), _, rfl, Sub.of_check [] ?_ (by repeat' first | exact Gen0.emp | exact Gen0.ofH rfl | refine Gen0.put ?_ (by decide) | refine Gen0.put0 ?_ ⟨_, rfl⟩)⟩
  conv => whnf
  (iterate 3 ((all_goals try (conv => whnf)); (repeat' first | exact ⟨⟩ | refine And.intro ?_ ?_ | rfl | exact fun _ h => h | exact .inl rfl | exact none_some | exact .inr in4 | fail)))
theorem strict_add (v : GV) (l : List GV) (hk : allKind 3 (v :: l) = true) (hi : ∀ g, g ∈ v :: l → inInt g.int = true) (doc : GV) (k : Int) : RsSpec 395 [.ptr (0,0,0) 0 0, .str oAdd, .lz (.gl (v :: l))] doc k (numR (sumL v.int l k)) := by
  have ha := added_ok v l hk hi k
  have hkk := sumL_k l v.int k
  generalize numR (sumL v.int l k) = r at *
  refine RsSpec.of fun hu => ?_
  refine MSpec.of_WC cxA_ok Tryz.func395 rfl Tryz.call395 (Nat.le_of_ble_eq_true rfl) (g := 1) ?_
  conv => whnf
  repeat' ((first | refine RegP.enter ?_ | refine DrawP.range (by kernel_rfl) ?_ | refine BuildP.frz ⟨rfl, ?_⟩ | refine BoxP.row ?_ | refine And.intro (Nat.succ_pos _) ?_ | fail); conv => whnf)
  cases r with
  | unk => exact absurd rfl hu
  | ok g k' =>
    replace hkk : k' = k := hkk
    subst hkk
    refine call_mm [] 1 21 (ha) ?_ ?_ ?_
    · conv => whnf
      (iterate 3 ((all_goals try (conv => whnf)); (repeat' first | exact ⟨⟩ | refine And.intro ?_ ?_ | rfl | exact fun _ h => h | exact .inl rfl | exact none_some | exact .inr in4 | fail)))
    · intro _; conv => whnf
      (iterate 3 ((all_goals try (conv => whnf)); (repeat' first | exact ⟨⟩ | refine And.intro ?_ ?_ | rfl | exact fun _ h => h | exact .inl rfl | exact none_some | exact .inr in4 | fail)))
    intro x; conv => whnf
    repeat' ((first | refine RegP.enter ?_ | refine DrawP.range (by kernel_rfl) ?_ | refine BuildP.frz ⟨rfl, ?_⟩ | refine BoxP.row ?_ | refine And.intro (Nat.succ_pos _) ?_ | fail); conv => whnf)
    refine ⟨(), _, rfl, Sub.of_check [((0,0,0), .old true (0,0,0))] ?_ (by repeat' first | exact Gen0.emp | exact Gen0.ofH rfl | refine Gen0.put ?_ (by decide) | refine Gen0.put0 ?_ ⟨_, rfl⟩)⟩
    conv => whnf
    (iterate 3 ((all_goals try (conv => whnf)); (repeat' first | exact ⟨⟩ | refine And.intro ?_ ?_ | rfl | exact fun _ h => h | exact .inl rfl | exact none_some | exact .inr in4 | fail)))
  | fail e k' =>
    replace hkk : k' = k := hkk
    subst hkk
    refine call_mm [] 1 21 (ha) ?_ ?_ ?_
    · conv => whnf
      (iterate 3 ((all_goals try (conv => whnf)); (repeat' first | exact ⟨⟩ | refine And.intro ?_ ?_ | rfl | exact fun _ h => h | exact .inl rfl | exact none_some | exact .inr in4 | fail)))
    · intro _; conv => whnf
      (iterate 3 ((all_goals try (conv => whnf)); (repeat' first | exact ⟨⟩ | refine And.intro ?_ ?_ | rfl | exact fun _ h => h | exact .inl rfl | exact none_some | exact .inr in4 | fail)))
    intro x; conv => whnf
    refine ⟨(), _, rfl, Sub.of_check [((0,0,0), .old true (0,0,0))] ?_ (by repeat' first | exact Gen0.emp | exact Gen0.ofH rfl | refine Gen0.put ?_ (by decide) | refine Gen0.put0 ?_ ⟨_, rfl⟩)⟩
    conv => whnf
    (iterate 3 ((all_goals try (conv => whnf)); (repeat' first | exact ⟨⟩ | refine And.intro ?_ ?_ | rfl | exact fun _ h => h | exact .inl rfl | exact none_some | exact .inr in4 | fail)))
theorem strict_sub (a b : GV) (ka : a.kind = 3) (kb : b.kind = 3) (ha : inInt a.int = true) (hb : inInt b.int = true) (doc : GV) (k : Int) : RsSpec 395 [.ptr (0,0,0) 0 0, .str oSubtract, .lz (.gl [a, b])] doc k (numM (a.int - b.int) k) := by
  unfold numM
  cases h : inInt (a.int - b.int)
  · refine MSpec.of_WC cxA_ok Tryz.func395 rfl Tryz.call395 (Nat.le_of_ble_eq_true rfl) (g := 1) ?_
    conv => whnf
    refine RegP.enter ?_
    conv => whnf
    refine RegP.enter ?_
    conv => whnf
    refine RegP.enter ?_
    conv => whnf
    refine RegP.enter ?_
    conv => whnf
    refine RegP.enter ?_
    conv => whnf
    refine DrawP.rangeQ (fun i => !(Nat.beq i 6)) (by kernel_rfl) ?_
    conv => whnf
    repeat' ((first | refine RegP.enter ?_ | refine DrawP.range (by kernel_rfl) ?_ | refine BuildP.frz ⟨rfl, ?_⟩ | refine BoxP.row ?_ | refine And.intro (Nat.succ_pos _) ?_ | fail); conv => whnf)
    refine And.intro ((by decide : 1 < 2)) ?_
    conv => whnf
    refine And.intro ((by decide : 1 < 2)) ?_
    conv => whnf
    repeat' ((first | refine RegP.enter ?_ | refine DrawP.range (by kernel_rfl) ?_ | refine BuildP.frz ⟨rfl, ?_⟩ | refine BoxP.row ?_ | refine And.intro (Nat.succ_pos _) ?_ | fail); conv => whnf)
    refine call_mm [] 1 30 (sub_no a b ka kb ha hb h) ?_ ?_ ?_
    · conv => whnf
      (iterate 3 ((all_goals try (conv => whnf)); (repeat' first | exact ⟨⟩ | refine And.intro ?_ ?_ | rfl | exact fun _ h => h | exact .inl rfl | exact none_some | exact .inr in4 | fail)))
    · intro _; conv => whnf
      (iterate 3 ((all_goals try (conv => whnf)); (repeat' first | exact ⟨⟩ | refine And.intro ?_ ?_ | rfl | exact fun _ h => h | exact .inl rfl | exact none_some | exact .inr in4 | fail)))
    intro x; conv => whnf
    refine ⟨(), _, rfl, Sub.of_check [((0,0,0), .old true (0,0,0))] ?_ (by repeat' first | exact Gen0.emp | exact Gen0.ofH rfl | refine Gen0.put ?_ (by decide) | refine Gen0.put0 ?_ ⟨_, rfl⟩)⟩
    conv => whnf
    (iterate 3 ((all_goals try (conv => whnf)); (repeat' first | exact ⟨⟩ | refine And.intro ?_ ?_ | rfl | exact fun _ h => h | exact .inl rfl | exact none_some | exact .inr in4 | fail)))
  · have hs := sub_yes a b ka kb ha hb h
    generalize gInt (a.int - b.int) = r at *
    refine MSpec.of_WC cxA_ok Tryz.func395 rfl Tryz.call395 (Nat.le_of_ble_eq_true rfl) (g := 1) ?_
    conv => whnf
    repeat' ((first | refine RegP.enter ?_ | refine DrawP.range (by kernel_rfl) ?_ | refine BuildP.frz ⟨rfl, ?_⟩ | refine BoxP.row ?_ | refine And.intro (Nat.succ_pos _) ?_ | fail); conv => whnf)
    refine And.intro ((by decide : 1 < 2)) ?_
    conv => whnf
    refine And.intro ((by decide : 1 < 2)) ?_
    conv => whnf
    repeat' ((first | refine RegP.enter ?_ | refine DrawP.range (by kernel_rfl) ?_ | refine BuildP.frz ⟨rfl, ?_⟩ | refine BoxP.row ?_ | refine And.intro (Nat.succ_pos _) ?_ | refine call_same (hs) rfl ?_ | fail); conv => whnf)
    refine ⟨(), _, rfl, Sub.of_check [((0,0,0), .old true (0,0,0))] ?_ (by repeat' first | exact Gen0.emp | exact Gen0.ofH rfl | refine Gen0.put ?_ (by decide) | refine Gen0.put0 ?_ ⟨_, rfl⟩)⟩
    conv => whnf
    (iterate 3 ((all_goals try (conv => whnf)); (repeat' first | exact ⟨⟩ | refine And.intro ?_ ?_ | rfl | exact fun _ h => h | exact .inl rfl | exact none_some | exact .inr in4 | fail)))
theorem strict_mul (v : GV) (l : List GV) (hk : allKind 3 (v :: l) = true) (hi : ∀ g, g ∈ v :: l → inInt g.int = true) (doc : GV) (k : Int) : RsSpec 395 [.ptr (0,0,0) 0 0, .str oMultiply, .lz (.gl (v :: l))] doc k (numR (mulL v.int l k)) := by
  have hkk := mulL_k l v.int k
  generalize hr : numR (mulL v.int l k) = r at *
  refine RsSpec.of fun hu => ?_
  refine MSpec.of_WC cxA_ok Tryz.func395 rfl Tryz.call395 (Nat.le_of_ble_eq_true rfl) (g := 1) ?_
  conv => whnf
  repeat' ((first | refine RegP.enter ?_ | refine DrawP.range (by kernel_rfl) ?_ | refine BuildP.frz ⟨rfl, ?_⟩ | refine BoxP.row ?_ | refine And.intro (Nat.succ_pos _) ?_ | refine call_same (want_ok (v :: l) hk) rfl ?_ | fail); conv => whnf)
  refine ⟨3, {q : Int × Nat // q.2 ≤ l.length ∧ inInt q.1 = true ∧ numR (mulL q.1 (l.drop q.2) k) = r}, fun i => ([(6, .ptr (1,6,0) 0 0), (7, .int i.1.1), (40, .lz (.gl l)), (41, .int l.length), (42, .int i.1.2)], [((0,0,0), runRow doc k), ((1,6,0), .cells 5 80 [[.int 0, .int 0, .str ⟨#[]⟩, .nil, .nil]])]), fun i => l.length - i.1.2, ⟨⟨(v.int, 0), Nat.zero_le _, hi v (by simp), hr⟩, Sub.of_check [((0,0,0), .old true (0,0,0)), ((1,6,0), .old true (1,6,0))] ?_ (by repeat' first | exact Gen0.emp | exact Gen0.ofH rfl | refine Gen0.put ?_ (by decide) | refine Gen0.put0 ?_ ⟨_, rfl⟩)⟩, fun ⟨⟨n, i⟩, hi2, hn, hia⟩ => ?_⟩
  · conv => whnf
    (iterate 3 ((all_goals try (conv => whnf)); (repeat' first | exact ⟨⟩ | refine And.intro ?_ ?_ | rfl | exact fun _ h => h | exact .inl rfl | exact none_some | exact .inr in4 | fail)))
    all_goals first | exact .inr ⟨rfl, rfl, tail_lz⟩ | (simp; done) | trace_state
  conv => whnf
  refine RegP.go fun hf => ?_
  conv => whnf
  refine br (fun hl2 => ?_) (fun hl2 => ?_)
  · have hlt : i < l.length := Int.ofNat_lt.1 (of_decide_eq_true hl2)
    have hR := le_of_mul (k := 79) (hf.lz 40 _ _ _ _ _ _ rfl rfl)
    try rw [hl2]
    conv => whnf
    repeat' ((first | refine RegP.enter ?_ | refine DrawP.range (by kernel_rfl) ?_ | refine BuildP.frz ⟨rfl, ?_⟩ | refine BoxP.row ?_ | refine And.intro (Nat.succ_pos _) ?_ | fail); conv => whnf)
    refine And.intro (hlt) ?_
    conv => whnf
    refine And.intro (hlt) ?_
    conv => whnf
    repeat' ((first | refine RegP.enter ?_ | refine DrawP.range (by kernel_rfl) ?_ | refine BuildP.frz ⟨rfl, ?_⟩ | refine BoxP.row ?_ | refine And.intro (Nat.succ_pos _) ?_ | fail); conv => whnf)
    have hxi := hi (l.getD i default) (List.mem_cons_of_mem _ (mem_getD hlt))
    replace hia : numR (mulL n (l.drop i) k) = r := hia
    rw [mulL_drop hlt] at hia
    cases hs : inInt (n * (l.getD i default).int)
    · rw [hs] at hia
      replace hia : .fail 52 k = r := hia
      subst hia
      refine call_mm [] 3 49 (times_no n (l.getD i default).int hn hxi hs) ?_ ?_ ?_
      · conv => whnf
        (iterate 3 ((all_goals try (conv => whnf)); (repeat' first | exact ⟨⟩ | refine And.intro ?_ ?_ | rfl | exact fun _ h => h | exact .inl rfl | exact none_some | exact .inr in4 | fail)))
      · intro _; conv => whnf
        (iterate 3 ((all_goals try (conv => whnf)); (repeat' first | exact ⟨⟩ | refine And.intro ?_ ?_ | rfl | exact fun _ h => h | exact .inl rfl | exact none_some | exact .inr in4 | fail)))
      intro x; conv => whnf
      refine ⟨(), _, rfl, Sub.of_check [((0,0,0), .old true (0,0,0))] ?_ (by repeat' first | exact Gen0.emp | exact Gen0.ofH rfl | refine Gen0.put ?_ (by decide) | refine Gen0.put0 ?_ ⟨_, rfl⟩)⟩
      conv => whnf
      (iterate 3 ((all_goals try (conv => whnf)); (repeat' first | exact ⟨⟩ | refine And.intro ?_ ?_ | rfl | exact fun _ h => h | exact .inl rfl | exact none_some | exact .inr in4 | fail)))
    · rw [hs] at hia
      repeat' ((first | refine RegP.enter ?_ | refine DrawP.range (by kernel_rfl) ?_ | refine BuildP.frz ⟨rfl, ?_⟩ | refine BoxP.row ?_ | refine And.intro (Nat.succ_pos _) ?_ | refine call_same (times_yes n (l.getD i default).int hn hxi hs) rfl ?_ | fail); conv => whnf)
      refine ⟨⟨(n * (l.getD i default).int, i + 1), hlt, hs, hia⟩, (by show l.length - (i + 1) < l.length - i; omega), Sub.of_check [((0,0,0), .old true (0,0,0)), ((1,6,0), .old true (1,6,0))] ?_ (by repeat' first | exact Gen0.emp | exact Gen0.ofH rfl | refine Gen0.put ?_ (by decide) | refine Gen0.put0 ?_ ⟨_, rfl⟩)⟩
      conv => whnf
      (iterate 3 ((all_goals try (conv => whnf)); (repeat' first | exact ⟨⟩ | refine And.intro ?_ ?_ | rfl | exact fun _ h => h | exact .inl rfl | exact none_some | exact .inr in4 | fail)))
      all_goals exact wrap_succ hlt hR
  have hge : i = l.length := by
    have h' : ¬ ((i : Int) < ((l.length : Nat) : Int)) := of_decide_eq_false hl2
    have : i ≤ l.length := hi2
    omega
  have hia : .ok (gInt n) k = r := by
    rw [← hia]
    show _ = numR (mulL n (l.drop i) k)
    rw [hge, List.drop_length]; rfl
  subst hia
  try rw [hl2]
  conv => whnf
  repeat' ((first | refine RegP.enter ?_ | refine DrawP.range (by kernel_rfl) ?_ | refine BuildP.frz ⟨rfl, ?_⟩ | refine BoxP.row ?_ | refine And.intro (Nat.succ_pos _) ?_ | refine call_same (number_ok n) rfl ?_ | fail); conv => whnf)
  refine ⟨(), _, rfl, Sub.of_check [((0,0,0), .old true (0,0,0))] ?_ (by repeat' first | exact Gen0.emp | exact Gen0.ofH rfl | refine Gen0.put ?_ (by decide) | refine Gen0.put0 ?_ ⟨_, rfl⟩)⟩
  conv => whnf
  (iterate 3 ((all_goals try (conv => whnf)); (repeat' first | exact ⟨⟩ | refine And.intro ?_ ?_ | rfl | exact fun _ h => h | exact .inl rfl | exact none_some | exact .inr in4 | fail)))
theorem strict_oDivide0 (a b : GV) (hk : allKind 3 [a, b] = true) (hz : b.int = 0) (doc : GV) (k : Int) : RsSpec 395 [.ptr (0,0,0) 0 0, .str oDivide, .lz (.gl [a, b])] doc k (.fail 53 k) := by

  refine MSpec.of_WC cxA_ok Tryz.func395 rfl Tryz.call395 (Nat.le_of_ble_eq_true rfl) (g := 1) ?_
  conv => whnf
  refine RegP.enter ?_
  conv => whnf
  refine RegP.enter ?_
  conv => whnf
  refine RegP.enter ?_
  conv => whnf
  refine RegP.enter ?_
  conv => whnf
  refine RegP.enter ?_
  conv => whnf
  refine RegP.enter ?_
  conv => whnf
  refine RegP.enter ?_
  conv => whnf
  refine call_same (want_ok [a, b] hk) rfl ?_
  conv => whnf
  refine RegP.enter ?_
  conv => whnf
  refine DrawP.rangeQ (fun i => !(Nat.beq i 9)) (by kernel_rfl) ?_
  conv => whnf
  repeat' ((first | refine RegP.enter ?_ | refine DrawP.range (by kernel_rfl) ?_ | refine BuildP.frz ⟨rfl, ?_⟩ | refine BoxP.row ?_ | refine And.intro (Nat.succ_pos _) ?_ | fail); conv => whnf)
  refine And.intro ((by decide : 1 < 2)) ?_
  conv => whnf
  refine And.intro ((by decide : 1 < 2)) ?_
  conv => whnf
  repeat' ((first | refine RegP.enter ?_ | refine DrawP.range (by kernel_rfl) ?_ | refine BuildP.frz ⟨rfl, ?_⟩ | refine BoxP.row ?_ | refine And.intro (Nat.succ_pos _) ?_ | fail); conv => whnf)
  refine call_mm [] 1 67 (div_zero oDivide a.int) ?_ ?_ ?_
  · conv => whnf
    (iterate 3 ((all_goals try (conv => whnf)); (repeat' first | exact ⟨⟩ | refine And.intro ?_ ?_ | rfl | exact fun _ h => h | exact .inl rfl | exact none_some | exact .inr in4 | fail)))
    all_goals exact hz
  · intro _; conv => whnf
    (iterate 3 ((all_goals try (conv => whnf)); (repeat' first | exact ⟨⟩ | refine And.intro ?_ ?_ | rfl | exact fun _ h => h | exact .inl rfl | exact none_some | exact .inr in4 | fail)))
  intro x; conv => whnf
  refine ⟨(), _, rfl, Sub.of_check [((0,0,0), .old true (0,0,0))] ?_ (by repeat' first | exact Gen0.emp | exact Gen0.ofH rfl | refine Gen0.put ?_ (by decide) | refine Gen0.put0 ?_ ⟨_, rfl⟩)⟩
  conv => whnf
  (iterate 3 ((all_goals try (conv => whnf)); (repeat' first | exact ⟨⟩ | refine And.intro ?_ ?_ | rfl | exact fun _ h => h | exact .inl rfl | exact none_some | exact .inr in4 | fail)))
theorem strict_oMod0 (a b : GV) (hk : allKind 3 [a, b] = true) (hz : b.int = 0) (doc : GV) (k : Int) : RsSpec 395 [.ptr (0,0,0) 0 0, .str oMod, .lz (.gl [a, b])] doc k (.fail 53 k) := by

  refine MSpec.of_WC cxA_ok Tryz.func395 rfl Tryz.call395 (Nat.le_of_ble_eq_true rfl) (g := 1) ?_
  conv => whnf
  refine RegP.enter ?_
  conv => whnf
  refine RegP.enter ?_
  conv => whnf
  refine RegP.enter ?_
  conv => whnf
  refine RegP.enter ?_
  conv => whnf
  refine RegP.enter ?_
  conv => whnf
  refine RegP.enter ?_
  conv => whnf
  refine RegP.enter ?_
  conv => whnf
  refine RegP.enter ?_
  conv => whnf
  refine call_same (want_ok [a, b] hk) rfl ?_
  conv => whnf
  refine RegP.enter ?_
  conv => whnf
  refine DrawP.rangeQ (fun i => !(Nat.beq i 9)) (by kernel_rfl) ?_
  conv => whnf
  repeat' ((first | refine RegP.enter ?_ | refine DrawP.range (by kernel_rfl) ?_ | refine BuildP.frz ⟨rfl, ?_⟩ | refine BoxP.row ?_ | refine And.intro (Nat.succ_pos _) ?_ | fail); conv => whnf)
  refine And.intro ((by decide : 1 < 2)) ?_
  conv => whnf
  refine And.intro ((by decide : 1 < 2)) ?_
  conv => whnf
  repeat' ((first | refine RegP.enter ?_ | refine DrawP.range (by kernel_rfl) ?_ | refine BuildP.frz ⟨rfl, ?_⟩ | refine BoxP.row ?_ | refine And.intro (Nat.succ_pos _) ?_ | fail); conv => whnf)
  refine call_mm [] 1 67 (div_zero oMod a.int) ?_ ?_ ?_
  · conv => whnf
    (iterate 3 ((all_goals try (conv => whnf)); (repeat' first | exact ⟨⟩ | refine And.intro ?_ ?_ | rfl | exact fun _ h => h | exact .inl rfl | exact none_some | exact .inr in4 | fail)))
    all_goals exact hz
  · intro _; conv => whnf
    (iterate 3 ((all_goals try (conv => whnf)); (repeat' first | exact ⟨⟩ | refine And.intro ?_ ?_ | rfl | exact fun _ h => h | exact .inl rfl | exact none_some | exact .inr in4 | fail)))
  intro x; conv => whnf
  refine ⟨(), _, rfl, Sub.of_check [((0,0,0), .old true (0,0,0))] ?_ (by repeat' first | exact Gen0.emp | exact Gen0.ofH rfl | refine Gen0.put ?_ (by decide) | refine Gen0.put0 ?_ ⟨_, rfl⟩)⟩
  conv => whnf
  (iterate 3 ((all_goals try (conv => whnf)); (repeat' first | exact ⟨⟩ | refine And.intro ?_ ?_ | rfl | exact fun _ h => h | exact .inl rfl | exact none_some | exact .inr in4 | fail)))
theorem strict_mod (a b : GV) (hk : allKind 3 [a, b] = true) (h0 : ¬ b.int = 0) (doc : GV) (k : Int) : RsSpec 395 [.ptr (0,0,0) 0 0, .str oMod, .lz (.gl [a, b])] doc k (.ok (gInt (a.int.tmod b.int)) k) := by
  have hs := mod_ok a.int b.int h0
  generalize gInt (a.int.tmod b.int) = r at *
  refine MSpec.of_WC cxA_ok Tryz.func395 rfl Tryz.call395 (Nat.le_of_ble_eq_true rfl) (g := 1) ?_
  conv => whnf
  repeat' ((first | refine RegP.enter ?_ | refine DrawP.range (by kernel_rfl) ?_ | refine BuildP.frz ⟨rfl, ?_⟩ | refine BoxP.row ?_ | refine And.intro (Nat.succ_pos _) ?_ | refine call_same (want_ok [a, b] hk) rfl ?_ | fail); conv => whnf)
  refine And.intro ((by decide : 1 < 2)) ?_
  conv => whnf
  refine And.intro ((by decide : 1 < 2)) ?_
  conv => whnf
  repeat' ((first | refine RegP.enter ?_ | refine DrawP.range (by kernel_rfl) ?_ | refine BuildP.frz ⟨rfl, ?_⟩ | refine BoxP.row ?_ | refine And.intro (Nat.succ_pos _) ?_ | refine call_same (hs) rfl ?_ | fail); conv => whnf)
  refine ⟨(), _, rfl, Sub.of_check [((0,0,0), .old true (0,0,0))] ?_ (by repeat' first | exact Gen0.emp | exact Gen0.ofH rfl | refine Gen0.put ?_ (by decide) | refine Gen0.put0 ?_ ⟨_, rfl⟩)⟩
  conv => whnf
  (iterate 3 ((all_goals try (conv => whnf)); (repeat' first | exact ⟨⟩ | refine And.intro ?_ ?_ | rfl | exact fun _ h => h | exact .inl rfl | exact none_some | exact .inr in4 | fail)))
theorem strict_divY (a b : GV) (hk : allKind 3 [a, b] = true) (ha : inInt a.int = true) (h0 : ¬ b.int = 0) (h : inInt (a.int.tdiv b.int) = true) (doc : GV) (k : Int) : RsSpec 395 [.ptr (0,0,0) 0 0, .str oDivide, .lz (.gl [a, b])] doc k (.ok (gInt (a.int.tdiv b.int)) k) := by
  have hs := div_yes a.int b.int ha h0 h
  generalize gInt (a.int.tdiv b.int) = r at *
  refine MSpec.of_WC cxA_ok Tryz.func395 rfl Tryz.call395 (Nat.le_of_ble_eq_true rfl) (g := 1) ?_
  conv => whnf
  repeat' ((first | refine RegP.enter ?_ | refine DrawP.range (by kernel_rfl) ?_ | refine BuildP.frz ⟨rfl, ?_⟩ | refine BoxP.row ?_ | refine And.intro (Nat.succ_pos _) ?_ | refine call_same (want_ok [a, b] hk) rfl ?_ | fail); conv => whnf)
  refine And.intro ((by decide : 1 < 2)) ?_
  conv => whnf
  refine And.intro ((by decide : 1 < 2)) ?_
  conv => whnf
  repeat' ((first | refine RegP.enter ?_ | refine DrawP.range (by kernel_rfl) ?_ | refine BuildP.frz ⟨rfl, ?_⟩ | refine BoxP.row ?_ | refine And.intro (Nat.succ_pos _) ?_ | refine call_same (hs) rfl ?_ | fail); conv => whnf)
  refine ⟨(), _, rfl, Sub.of_check [((0,0,0), .old true (0,0,0))] ?_ (by repeat' first | exact Gen0.emp | exact Gen0.ofH rfl | refine Gen0.put ?_ (by decide) | refine Gen0.put0 ?_ ⟨_, rfl⟩)⟩
  conv => whnf
  (iterate 3 ((all_goals try (conv => whnf)); (repeat' first | exact ⟨⟩ | refine And.intro ?_ ?_ | rfl | exact fun _ h => h | exact .inl rfl | exact none_some | exact .inr in4 | fail)))
theorem strict_divN (a b : GV) (hk : allKind 3 [a, b] = true) (ha : inInt a.int = true) (h0 : ¬ b.int = 0) (h : inInt (a.int.tdiv b.int) = false) (doc : GV) (k : Int) : RsSpec 395 [.ptr (0,0,0) 0 0, .str oDivide, .lz (.gl [a, b])] doc k (.fail 52 k) := by
  refine MSpec.of_WC cxA_ok Tryz.func395 rfl Tryz.call395 (Nat.le_of_ble_eq_true rfl) (g := 1) ?_
  conv => whnf
  refine RegP.enter ?_
  conv => whnf
  refine RegP.enter ?_
  conv => whnf
  refine RegP.enter ?_
  conv => whnf
  refine RegP.enter ?_
  conv => whnf
  refine RegP.enter ?_
  conv => whnf
  refine RegP.enter ?_
  conv => whnf
  refine RegP.enter ?_
  conv => whnf
  refine call_same (want_ok [a, b] hk) rfl ?_
  conv => whnf
  refine RegP.enter ?_
  conv => whnf
  refine DrawP.rangeQ (fun i => !(Nat.beq i 9)) (by kernel_rfl) ?_
  conv => whnf
  repeat' ((first | refine RegP.enter ?_ | refine DrawP.range (by kernel_rfl) ?_ | refine BuildP.frz ⟨rfl, ?_⟩ | refine BoxP.row ?_ | refine And.intro (Nat.succ_pos _) ?_ | fail); conv => whnf)
  refine And.intro ((by decide : 1 < 2)) ?_
  conv => whnf
  refine And.intro ((by decide : 1 < 2)) ?_
  conv => whnf
  repeat' ((first | refine RegP.enter ?_ | refine DrawP.range (by kernel_rfl) ?_ | refine BuildP.frz ⟨rfl, ?_⟩ | refine BoxP.row ?_ | refine And.intro (Nat.succ_pos _) ?_ | fail); conv => whnf)
  refine call_mm [] 1 67 (div_no a.int b.int ha h0 h) ?_ ?_ ?_
  · conv => whnf
    (iterate 3 ((all_goals try (conv => whnf)); (repeat' first | exact ⟨⟩ | refine And.intro ?_ ?_ | rfl | exact fun _ h => h | exact .inl rfl | exact none_some | exact .inr in4 | fail)))
  · intro _; conv => whnf
    (iterate 3 ((all_goals try (conv => whnf)); (repeat' first | exact ⟨⟩ | refine And.intro ?_ ?_ | rfl | exact fun _ h => h | exact .inl rfl | exact none_some | exact .inr in4 | fail)))
  intro x; conv => whnf
  refine ⟨(), _, rfl, Sub.of_check [((0,0,0), .old true (0,0,0))] ?_ (by repeat' first | exact Gen0.emp | exact Gen0.ofH rfl | refine Gen0.put ?_ (by decide) | refine Gen0.put0 ?_ ⟨_, rfl⟩)⟩
  conv => whnf
  (iterate 3 ((all_goals try (conv => whnf)); (repeat' first | exact ⟨⟩ | refine And.intro ?_ ?_ | rfl | exact fun _ h => h | exact .inl rfl | exact none_some | exact .inr in4 | fail)))
end Go.Eng
namespace Go.Eng
open Go.Proofs
set_option maxRecDepth 10000
theorem sumL_bd : ∀ (l : List GV) (n k : Int), StepOk k → RsBd k (numR (sumL n l k))
  | [], _, k, hk => ⟨Int.le_refl k, hk⟩
  | v :: l, n, k, hk => by
    unfold sumL
    cases inInt (n + v.int) with
    | true => exact sumL_bd l _ k hk
    | false => exact hk
theorem mulL_bd : ∀ (l : List GV) (n k : Int), StepOk k → RsBd k (numR (mulL n l k))
  | [], _, k, hk => ⟨Int.le_refl k, hk⟩
  | v :: l, n, k, hk => by
    unfold mulL
    cases inInt (n * v.int) with
    | true => exact mulL_bd l _ k hk
    | false => exact hk
theorem numM_bd {n k : Int} (hk : StepOk k) : RsBd k (numM n k) := by
  unfold numM
  cases inInt n with
  | true => exact ⟨Int.le_refl k, hk⟩
  | false => exact hk
theorem stOk : StOk OI := by
  intro op l doc k hk
  show RsSpec 395 _ doc k (strictI op l k) ∧ RsBd k (strictI op l k)
  unfold strictI
  cases h3 : allKind 3 l with
  | false => exact ⟨trivial, trivial⟩
  | true =>
    cases hi0 : l.all (fun g => inInt g.int) with
    | false => exact ⟨trivial, trivial⟩
    | true =>
    have hi : ∀ g, g ∈ l → inInt g.int = true := List.all_eq_true.1 hi0
    have hk3 : ∀ g, g ∈ l → g.kind = 3 := fun g hg => by simpa using List.all_eq_true.1 h3 g hg
    cases h1 : decide (op = oAdd) with
    | true =>
      have := of_decide_eq_true h1
      subst this
      match l, h3, hi with
      | [], _, _ => exact ⟨trivial, trivial⟩
      | v :: r, h3, hi => exact ⟨strict_add v r h3 hi doc k, sumL_bd r v.int k hk⟩
    | false =>
    cases h2 : decide (op = oSubtract) with
    | true =>
      have := of_decide_eq_true h2
      subst this
      match l, hk3, hi with
      | [], _, _ => exact ⟨trivial, trivial⟩
      | [_], _, _ => exact ⟨trivial, trivial⟩
      | [a, b], hk3, hi => exact ⟨strict_sub a b (hk3 a (by simp)) (hk3 b (by simp)) (hi a (by simp)) (hi b (by simp)) doc k, numM_bd hk⟩
      | _ :: _ :: _ :: _, _, _ => exact ⟨trivial, trivial⟩
    | false =>
    cases h4 : decide (op = oMultiply) with
    | true =>
      have := of_decide_eq_true h4
      subst this
      match l, h3, hi with
      | [], _, _ => exact ⟨trivial, trivial⟩
      | v :: r, h3, hi => exact ⟨strict_mul v r h3 hi doc k, mulL_bd r v.int k hk⟩
    | false =>
    cases h5 : decide (op = oMod) with
    | true =>
      have := of_decide_eq_true h5
      subst this
      match l, h3, hi with
      | [], _, _ => exact ⟨trivial, trivial⟩
      | [_], _, _ => exact ⟨trivial, trivial⟩
      | [a, b], h3, hi =>
        cases hz : decide (b.int = 0) with
        | true => 
          show RsSpec 395 _ doc k (match decide (b.int = 0) with | true => .fail 53 k | false => .ok (gInt (a.int.tmod b.int)) k) ∧ RsBd k (match decide (b.int = 0) with | true => .fail 53 k | false => .ok (gInt (a.int.tmod b.int)) k)
          rw [hz]
          exact ⟨strict_oMod0 a b h3 (of_decide_eq_true hz) doc k, hk⟩
        | false =>
          show RsSpec 395 _ doc k (match decide (b.int = 0) with | true => .fail 53 k | false => .ok (gInt (a.int.tmod b.int)) k) ∧ RsBd k (match decide (b.int = 0) with | true => .fail 53 k | false => .ok (gInt (a.int.tmod b.int)) k)
          rw [hz]
          exact ⟨strict_mod a b h3 (of_decide_eq_false hz) doc k, Int.le_refl k, hk⟩
      | _ :: _ :: _ :: _, _, _ => exact ⟨trivial, trivial⟩
    | false =>
    cases h6 : decide (op = oDivide) with
    | true =>
      have := of_decide_eq_true h6
      subst this
      match l, h3, hi with
      | [], _, _ => exact ⟨trivial, trivial⟩
      | [_], _, _ => exact ⟨trivial, trivial⟩
      | [a, b], h3, hi =>
        show RsSpec 395 _ doc k (match decide (b.int = 0) with | true => .fail 53 k | false => numM (a.int.tdiv b.int) k) ∧ RsBd k (match decide (b.int = 0) with | true => .fail 53 k | false => numM (a.int.tdiv b.int) k)
        cases hz : decide (b.int = 0) with
        | true => exact ⟨strict_oDivide0 a b h3 (of_decide_eq_true hz) doc k, hk⟩
        | false =>
          refine ⟨?_, numM_bd hk⟩
          show RsSpec 395 _ doc k (numM (a.int.tdiv b.int) k)
          unfold numM
          cases hin : inInt (a.int.tdiv b.int) with
          | true => exact strict_divY a b h3 (hi a (by simp)) (of_decide_eq_false hz) hin doc k
          | false => exact strict_divN a b h3 (hi a (by simp)) (of_decide_eq_false hz) hin doc k
      | _ :: _ :: _ :: _, _, _ => exact ⟨trivial, trivial⟩
    | false => exact ⟨trivial, trivial⟩
/-- Work of numbers. -/
theorem evalI_ok (n : Nat) : EvOk (evalP OI n) := evalP_ok loOk stOk n
end Go.Eng
namespace Go.Eng
open Go.Proofs Go.RowKit Go.Extern.Stop Go.Stop Go.Extern
set_option maxRecDepth 10000
def firstOf : Option Code → Code | some (.seq a _) => a | _ => .skip
def secondOf : Option Code → Code | some (.seq _ (.seq b _)) => b | _ => .skip
def restOf : Option Code → Code | some (.seq _ (.seq _ c)) => c | _ => .skip
def behind : Option Code → Code | some (.seq _ c) => c | _ => .skip
/-- What the caller of expr.Eval finds in its two results' variables. -/
def evalH (v : GV) (e : Int) : List (Id × Row) := [((0,4,0), .cells 5 80 [v.cells]), ((0,5,0), .cells 1 8 [[.int e]])]
def evalT : List (Nat × AV) := [(4, .ptr (0,4,0) 0 0), (5, .ptr (0,5,0) 0 0)]
def evalK (r : Rs GV) (e : AX) (T : TT) (H : HH) : Prop := match r with
  | .ok g _ => e = .ret ∧ Sub T H (ofL evalT) (ofH (evalH g 0))
  | .fail n _ => e = .panic (stopAV n) ∧ Sub T H (ofL evalT) (ofH (evalH gZero 0))
  | .unk => False
theorem eval_walk {ev : Nd → GV → List (ByteArray × GV) → Int → Rs GV} (hev : EvOk ev) (x : Nd) (doc : GV) (hu : stepF ev x doc [] 0 ≠ .unk) :
    WC cxA 18 0 (firstOf Tryz.f69.body) (argT 0 [exprAV x, .agg doc.cells]) HH.emp (fun e T H => e = .normal ∧ T 4 = some (.ptr (0,4,0) 0 0) ∧ T 5 = some (.ptr (0,5,0) 0 0) ∧ T 7 = none ∧ WC cxA 18 1 (restOf Tryz.f69.body) T H (evalK (stepF ev x doc [] 0))) := by
  have hs := (step_ok hev x doc [] 0 ⟨Int.le_refl _, by decide⟩).1
  generalize stepF ev x doc [] 0 = r at *
  conv => whnf
  refine RegP.enter ?_
  conv => whnf
  refine BoxP.frz ⟨rfl, ?_⟩
  conv => whnf
  refine ⟨rfl, rfl, rfl, rfl, ?_⟩
  conv => whnf
  repeat' ((first | refine RegP.enter ?_ | refine DrawP.range (by kernel_rfl) ?_ | refine BuildP.frz ⟨rfl, ?_⟩ | refine BoxP.row ?_ | refine And.intro (Nat.succ_pos _) ?_ | fail); conv => whnf)
  cases r with
  | unk => exact absurd rfl hu
  | ok g k =>
    refine call_mm [((0,0,0), .old true (1,10,0))] 1 16 (hs) ?_ ?_ ?_
    · conv => whnf
      (iterate 3 ((all_goals try (conv => whnf)); (repeat' first | exact ⟨⟩ | refine And.intro ?_ ?_ | rfl | exact fun _ h => h | exact .inl rfl | exact none_some | exact .inr in4 | fail)))
      all_goals first | exact leK_refl _ (idf_av _) | trace_state
    · intro _; conv => whnf
      (iterate 3 ((all_goals try (conv => whnf)); (repeat' first | exact ⟨⟩ | refine And.intro ?_ ?_ | rfl | exact fun _ h => h | exact .inl rfl | exact none_some | exact .inr in4 | fail)))
    intro x; conv => whnf
    repeat' ((first | refine RegP.enter ?_ | refine DrawP.range (by kernel_rfl) ?_ | refine BuildP.frz ⟨rfl, ?_⟩ | refine BoxP.row ?_ | refine And.intro (Nat.succ_pos _) ?_ | refine call_same (clone_ok g) rfl ?_ | fail); conv => whnf)
    refine ⟨rfl, Sub.of_check [((0,4,0), .old true (0,4,0)), ((0,5,0), .old true (0,5,0))] ?_ (by repeat' first | exact Gen0.emp | exact Gen0.ofH rfl | refine Gen0.put ?_ (by decide) | refine Gen0.put0 ?_ ⟨_, rfl⟩)⟩
    conv => whnf
    (iterate 3 ((all_goals try (conv => whnf)); (repeat' first | exact ⟨⟩ | refine And.intro ?_ ?_ | rfl | exact fun _ h => h | exact .inl rfl | exact none_some | exact .inr in4 | fail)))
  | fail e k =>
    refine call_mm [((0,0,0), .old true (1,10,0))] 1 16 (hs) ?_ ?_ ?_
    · conv => whnf
      (iterate 3 ((all_goals try (conv => whnf)); (repeat' first | exact ⟨⟩ | refine And.intro ?_ ?_ | rfl | exact fun _ h => h | exact .inl rfl | exact none_some | exact .inr in4 | fail)))
      all_goals first | exact leK_refl _ (idf_av _) | trace_state
    · intro _; conv => whnf
      (iterate 3 ((all_goals try (conv => whnf)); (repeat' first | exact ⟨⟩ | refine And.intro ?_ ?_ | rfl | exact fun _ h => h | exact .inl rfl | exact none_some | exact .inr in4 | fail)))
    intro x; conv => whnf
    refine ⟨rfl, Sub.of_check [((0,4,0), .old true (0,4,0)), ((0,5,0), .old true (0,5,0))] ?_ (by repeat' first | exact Gen0.emp | exact Gen0.ofH rfl | refine Gen0.put ?_ (by decide) | refine Gen0.put0 ?_ ⟨_, rfl⟩)⟩
    conv => whnf
    (iterate 3 ((all_goals try (conv => whnf)); (repeat' first | exact ⟨⟩ | refine And.intro ?_ ?_ | rfl | exact fun _ h => h | exact .inl rfl | exact none_some | exact .inr in4 | fail)))
theorem eval_end (v : GV) (e : Int) : resE cxA (ofL evalT) (ofH (evalH v e)) Tryz.f69.results.toList (fun l => retP (.ret (.tup [.agg v.cells, .int e])) (oneOf l) (ofH (evalH v e))) := by
  conv => whnf
  repeat' ((first | refine RegP.enter ?_ | refine DrawP.range (by kernel_rfl) ?_ | refine BuildP.frz ⟨rfl, ?_⟩ | refine BoxP.row ?_ | refine And.intro (Nat.succ_pos _) ?_ | fail); conv => whnf)
  refine Ent.of_check ?_ rfl
  conv => whnf
  (iterate 3 ((all_goals try (conv => whnf)); (repeat' first | exact ⟨⟩ | refine And.intro ?_ ?_ | rfl | exact fun _ h => h | exact .inl rfl | exact none_some | exact .inr in4 | fail)))
end Go.Eng
namespace Go.Eng
open Go.Proofs
set_option maxRecDepth 10000
structure CatchP (v : GV) (e : Int) (ex : AX) (T : TT) (H : HH) : Prop where
  n : ex = .normal
  h : Sub T H (ofL []) (ofH (evalH v e))
def catchT (v : AV) : TT := (argT 0 [.ptr (0,4,0) 0 0, .ptr (0,5,0) 0 0]).put 5 v
theorem idle_walk (v : GV) (e : Int) : WC cxA 14 1 (behind Tryz.f132.body) (catchT (.lit .nilIface)) (ofH (evalH v e)) (CatchP v e) := by
  conv => whnf
  repeat' ((first | refine RegP.enter ?_ | refine DrawP.range (by kernel_rfl) ?_ | refine BuildP.frz ⟨rfl, ?_⟩ | refine BoxP.row ?_ | refine And.intro (Nat.succ_pos _) ?_ | fail); conv => whnf)
  refine ⟨rfl, Sub.of_check [((0,4,0), .old true (0,4,0)), ((0,5,0), .old true (0,5,0))] ?_ (by repeat' first | exact Gen0.emp | exact Gen0.ofH rfl | refine Gen0.put ?_ (by decide) | refine Gen0.put0 ?_ ⟨_, rfl⟩)⟩
  conv => whnf
  (iterate 3 ((all_goals try (conv => whnf)); (repeat' first | exact ⟨⟩ | refine And.intro ?_ ?_ | rfl | exact fun _ h => h | exact .inl rfl | exact none_some | exact .inr in4 | fail)))
theorem catch_walk (e : Int) : WC cxA 14 1 (behind Tryz.f132.body) (catchT (stopAV e)) (ofH (evalH gZero 0)) (CatchP gZero e) := by
  conv => whnf
  refine RegP.enter ?_
  conv => whnf
  refine RegP.enter ?_
  conv => whnf
  refine RegP.enter ?_
  conv => whnf
  refine RegP.enter ?_
  conv => whnf
  refine DrawP.all ?_
  conv => whnf
  repeat' first | (refine And.intro Nat.zero_lt_one ?_; conv => whnf) | (refine And.intro ?_ ?_ <;> (conv => whnf)) | (refine ⟨rfl, Sub.of_check [((0,4,0), .old true (0,4,0)), ((0,5,0), .old true (0,5,0))] ?_ (by repeat' first | exact Gen0.emp | exact Gen0.ofH rfl | refine Gen0.put ?_ (by decide) | refine Gen0.put0 ?_ ⟨_, rfl⟩)⟩) | fail
  all_goals (conv => whnf)
  (iterate 3 ((all_goals try (conv => whnf)); (repeat' first | exact ⟨⟩ | refine And.intro ?_ ?_ | rfl | exact fun _ h => h | exact .inl rfl | exact none_some | exact .inr in4 | fail)))
end Go.Eng

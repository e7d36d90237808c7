/- Loops3: an engine for the program's code, and walks of its functions (Lr Br). -/
import Derived.Test.YtlcepambcoobgaaGreatDoorLoops2
import Derived.Test.YtlcepambcoobgaaGreatDoorEng24
import Derived.Test.YtlcepambcoobgaaGreatDoorEng15
import Derived.OpenShut
import Derived.SizedLaws
namespace Go.Eng
open Go.Proofs
set_option maxRecDepth 20000
set_option maxHeartbeats 4000000
theorem sumI_snoc (a : Int) : ∀ (ns : List Int) (t : Int), sumI t (ns ++ [a]) = sumI t ns + a
  | [], t => rfl
  | b :: ns, t => sumI_snoc a ns (t + b)
theorem sumI_bd : ∀ (ns : List Int) (t : Int), smalls ns → t - 1000000 * ns.length ≤ sumI t ns ∧ sumI t ns ≤ t + 1000000 * ns.length
  | [], t, _ => by simp [sumI]
  | a :: ns, t, h => by
    obtain ⟨h1, h2⟩ := smalls_cons h
    have := sumI_bd ns (t + a) h2
    simp only [sumI, List.length_cons]
    omega
abbrev Seen (l : List GV) := { ns : List Int // ns.length ≤ l.length ∧ l.take ns.length = ints ns ∧ smalls ns }
theorem isInt {g : GV} (h1 : (g.kind != 3) = false) (h2 : (!decide (g.text = ⟨#[]⟩)) = false) (h3 : decide ((g.list.length : Int) > 0) = false) (h4 : decide ((g.doc.length : Int) > 0) = false) : g = gInt g.int := by
  have e1 : g.kind = 3 := by simpa using h1
  have e2 : g.text = ⟨#[]⟩ := by simpa using h2
  have e3 : g.list = [] := List.eq_nil_of_length_eq_zero (by have := of_decide_eq_false h3; omega)
  have e4 : g.doc = [] := List.eq_nil_of_length_eq_zero (by have := of_decide_eq_false h4; omega)
  obtain ⟨k, n, t, l, d⟩ := g
  cases e1; cases e2; cases e3; cases e4
  rfl
theorem and127 (n : Int) : ∃ A : Nat, A ≤ 127 ∧ IntKind.i64.wrap ((BitVec.ofInt IntKind.i64.bits n &&& BitVec.ofInt IntKind.i64.bits 127).toNat : Int) = (A : Int) := by
  refine ⟨(BitVec.ofInt IntKind.i64.bits n &&& BitVec.ofInt IntKind.i64.bits 127).toNat, ?_, ?_⟩
  · rw [BitVec.toNat_and]
    exact Nat.and_le_right
  · have : (BitVec.ofInt IntKind.i64.bits n &&& BitVec.ofInt IntKind.i64.bits 127).toNat ≤ 127 := by
      rw [BitVec.toNat_and]
      exact Nat.and_le_right
    exact wrap64 (by omega) (by omega)
theorem getD_ints {ns : List Int} {i : Nat} (h : i < ns.length) : ((ints ns).getD i default).int = ns.getD i default := by
  simp [List.getD_eq_getElem?_getD, List.getElem?_map, List.getElem?_eq_getElem h, gInt, GV.int]
theorem dbl_get {ns : List Int} (hs : smalls ns) {i : Nat} (h : i < ns.length) : (((gList (ints (dbl ns))).list.getD i default).int != IntKind.i64.wrap (2 * ((ints ns).getD i default).int)) = false := by
  have h2 : i < (dbl ns).length := by simpa using h
  have e1 : ((gList (ints (dbl ns))).list.getD i default).int = (dbl ns).getD i default := getD_ints h2
  have e2 : (dbl ns).getD i default = ns.getD i default + ns.getD i default := by
    simp [List.getD_eq_getElem?_getD, List.getElem?_map, List.getElem?_eq_getElem h]
  have hb := hs (ns.getD i default) (by simp [List.getD_eq_getElem?_getD, List.getElem?_eq_getElem h])
  rw [e1, e2, getD_ints h, wrap64 (by omega) (by omega), bne_eq_false_iff_eq]
  omega
theorem loops_ok (l : List GV) (n : Int) : PSpec cxA 9 [.lz (.gl l), .int n] (.ret (.bool true)) := by
  refine PSpec.of_WC cxA_ok Tryz.func9 rfl Tryz.call9 (Nat.le_of_ble_eq_true rfl) (g := 1) ?_
  conv => whnf
  repeat' ((first | refine RegP.enter ?_ | refine DrawP.range (by kernel_rfl) ?_ | refine BuildP.frz ⟨rfl, ?_⟩ | refine BoxP.row ?_ | refine And.intro (Nat.succ_pos _) ?_ | refine call_same (awake_ok) rfl ?_ | fail); conv => whnf)
  cases h100 : decide ((l.length : Int) > 100)
  rotate_left
  · conv => whnf
    repeat' ((first | refine RegP.enter ?_ | refine DrawP.range (by kernel_rfl) ?_ | refine BuildP.frz ⟨rfl, ?_⟩ | refine BoxP.row ?_ | refine And.intro (Nat.succ_pos _) ?_ | fail); conv => whnf)
    refine Ent.of_check ?_ rfl
    conv => whnf
    (iterate 3 ((all_goals try (conv => whnf)); (repeat' first | exact ⟨⟩ | refine And.intro ?_ ?_ | rfl | exact fun _ h => h | exact .inl rfl | exact none_some | exact .inr in4 | fail)))
  have hl : l.length ≤ 100 := by have := of_decide_eq_false h100; omega
  conv => whnf
  repeat' ((first | refine RegP.enter ?_ | refine DrawP.range (by kernel_rfl) ?_ | refine BuildP.frz ⟨rfl, ?_⟩ | refine BoxP.row ?_ | refine And.intro (Nat.succ_pos _) ?_ | fail); conv => whnf)
  refine ⟨2, Seen l, fun i => ([(0, .lz (.gl l)), (1, .int n), (5, .bool true), (6, .int (sumI 0 i.1)), (7, .int i.1.length)], []), fun i => l.length - i.1.length, ⟨⟨[], Nat.zero_le _, rfl, fun _ h => by cases h⟩, Sub.of_check [] ?_ (by repeat' first | exact Gen0.emp | exact Gen0.ofH rfl | refine Gen0.put ?_ (by decide) | refine Gen0.put0 ?_ ⟨_, rfl⟩)⟩, fun ⟨ns, hi, ht, hs⟩ => ?_⟩
  · conv => whnf
    (iterate 3 ((all_goals try (conv => whnf)); (repeat' first | exact ⟨⟩ | refine And.intro ?_ ?_ | rfl | exact fun _ h => h | exact .inl rfl | exact none_some | exact .inr in4 | fail)))
  conv => whnf
  refine RegP.enter ?_
  conv => whnf
  refine br (fun hl1 => ?_) (fun hl1 => ?_)
  · have hlt : ns.length < l.length := by simpa using hl1
    try rw [hl1]
    conv => whnf
    refine RegP.enter ?_
    conv => whnf
    refine And.intro (hlt) ?_
    conv => whnf
    refine And.intro (hlt) ?_
    conv => whnf
    refine br (fun h1 => ?_) (fun h1 => ?_)
    · try rw [h1]
      conv => whnf
      repeat' ((first | refine RegP.enter ?_ | refine DrawP.range (by kernel_rfl) ?_ | refine BuildP.frz ⟨rfl, ?_⟩ | refine BoxP.row ?_ | refine And.intro (Nat.succ_pos _) ?_ | fail); conv => whnf)
      refine Ent.of_check ?_ rfl
      conv => whnf
      (iterate 3 ((all_goals try (conv => whnf)); (repeat' first | exact ⟨⟩ | refine And.intro ?_ ?_ | rfl | exact fun _ h => h | exact .inl rfl | exact none_some | exact .inr in4 | fail)))
    try rw [h1]
    conv => whnf
    refine And.intro (hlt) ?_
    conv => whnf
    refine And.intro (hlt) ?_
    conv => whnf
    refine br (fun h2 => ?_) (fun h2 => ?_)
    · try rw [h2]
      conv => whnf
      repeat' ((first | refine RegP.enter ?_ | refine DrawP.range (by kernel_rfl) ?_ | refine BuildP.frz ⟨rfl, ?_⟩ | refine BoxP.row ?_ | refine And.intro (Nat.succ_pos _) ?_ | fail); conv => whnf)
      refine Ent.of_check ?_ rfl
      conv => whnf
      (iterate 3 ((all_goals try (conv => whnf)); (repeat' first | exact ⟨⟩ | refine And.intro ?_ ?_ | rfl | exact fun _ h => h | exact .inl rfl | exact none_some | exact .inr in4 | fail)))
    try rw [h2]
    conv => whnf
    refine And.intro (hlt) ?_
    conv => whnf
    refine And.intro (hlt) ?_
    conv => whnf
    refine br (fun h3 => ?_) (fun h3 => ?_)
    · try rw [h3]
      conv => whnf
      repeat' ((first | refine RegP.enter ?_ | refine DrawP.range (by kernel_rfl) ?_ | refine BuildP.frz ⟨rfl, ?_⟩ | refine BoxP.row ?_ | refine And.intro (Nat.succ_pos _) ?_ | fail); conv => whnf)
      refine Ent.of_check ?_ rfl
      conv => whnf
      (iterate 3 ((all_goals try (conv => whnf)); (repeat' first | exact ⟨⟩ | refine And.intro ?_ ?_ | rfl | exact fun _ h => h | exact .inl rfl | exact none_some | exact .inr in4 | fail)))
    try rw [h3]
    conv => whnf
    refine And.intro (hlt) ?_
    conv => whnf
    refine And.intro (hlt) ?_
    conv => whnf
    refine br (fun h4 => ?_) (fun h4 => ?_)
    · try rw [h4]
      conv => whnf
      repeat' ((first | refine RegP.enter ?_ | refine DrawP.range (by kernel_rfl) ?_ | refine BuildP.frz ⟨rfl, ?_⟩ | refine BoxP.row ?_ | refine And.intro (Nat.succ_pos _) ?_ | fail); conv => whnf)
      refine Ent.of_check ?_ rfl
      conv => whnf
      (iterate 3 ((all_goals try (conv => whnf)); (repeat' first | exact ⟨⟩ | refine And.intro ?_ ?_ | rfl | exact fun _ h => h | exact .inl rfl | exact none_some | exact .inr in4 | fail)))
    try rw [h4]
    conv => whnf
    refine And.intro (hlt) ?_
    conv => whnf
    refine And.intro (hlt) ?_
    conv => whnf
    refine br (fun h5 => ?_) (fun h5 => ?_)
    · try rw [h5]
      conv => whnf
      repeat' ((first | refine RegP.enter ?_ | refine DrawP.range (by kernel_rfl) ?_ | refine BuildP.frz ⟨rfl, ?_⟩ | refine BoxP.row ?_ | refine And.intro (Nat.succ_pos _) ?_ | fail); conv => whnf)
      refine Ent.of_check ?_ rfl
      conv => whnf
      (iterate 3 ((all_goals try (conv => whnf)); (repeat' first | exact ⟨⟩ | refine And.intro ?_ ?_ | rfl | exact fun _ h => h | exact .inl rfl | exact none_some | exact .inr in4 | fail)))
    try rw [h5]
    conv => whnf
    refine And.intro (hlt) ?_
    conv => whnf
    refine And.intro (hlt) ?_
    conv => whnf
    refine br (fun h6 => ?_) (fun h6 => ?_)
    · try rw [h6]
      conv => whnf
      repeat' ((first | refine RegP.enter ?_ | refine DrawP.range (by kernel_rfl) ?_ | refine BuildP.frz ⟨rfl, ?_⟩ | refine BoxP.row ?_ | refine And.intro (Nat.succ_pos _) ?_ | fail); conv => whnf)
      refine Ent.of_check ?_ rfl
      conv => whnf
      (iterate 3 ((all_goals try (conv => whnf)); (repeat' first | exact ⟨⟩ | refine And.intro ?_ ?_ | rfl | exact fun _ h => h | exact .inl rfl | exact none_some | exact .inr in4 | fail)))
    try rw [h6]
    conv => whnf
    repeat' ((first | refine RegP.enter ?_ | refine DrawP.range (by kernel_rfl) ?_ | refine BuildP.frz ⟨rfl, ?_⟩ | refine BoxP.row ?_ | refine And.intro (Nat.succ_pos _) ?_ | fail); conv => whnf)
    refine And.intro (hlt) ?_
    conv => whnf
    refine And.intro (hlt) ?_
    conv => whnf
    repeat' ((first | refine RegP.enter ?_ | refine DrawP.range (by kernel_rfl) ?_ | refine BuildP.frz ⟨rfl, ?_⟩ | refine BoxP.row ?_ | refine And.intro (Nat.succ_pos _) ?_ | fail); conv => whnf)
    have hg : l.getD ns.length default = gInt (l.getD ns.length default).int := isInt h1 h4 h5 h6
    have hb : -1000000 ≤ (l.getD ns.length default).int ∧ (l.getD ns.length default).int ≤ 1000000 := ⟨by have := of_decide_eq_false h2; exact Int.not_lt.1 this, by have := of_decide_eq_false h3; exact Int.not_lt.1 this⟩
    have hsb := sumI_bd ns 0 hs
    have w1 : IntKind.i64.wrap (sumI 0 ns + (l.getD ns.length default).int) = sumI 0 (ns ++ [(l.getD ns.length default).int]) := by rw [sumI_snoc]; exact wrap64 (by omega) (by omega)
    have w2 : IntKind.i64.wrap ((ns.length : Int) + 1) = ((ns ++ [(l.getD ns.length default).int]).length : Int) := by rw [List.length_append, List.length_singleton]; exact wrap64 (by omega) (by omega)
    have w3 : l.take (ns ++ [(l.getD ns.length default).int]).length = ints (ns ++ [(l.getD ns.length default).int]) := by
      rw [List.length_append, List.length_singleton, take_succ' hlt, ht]
      exact (congrArg (ints ns ++ [·]) hg).trans (List.map_append (f := gInt) (l₁ := ns) (l₂ := [(l.getD ns.length default).int])).symm
    have w4 : smalls (ns ++ [(l.getD ns.length default).int]) := by
      intro m hm
      rcases List.mem_append.1 hm with h | h
      · exact hs m h
      · rw [List.mem_singleton.1 h]; exact hb
    refine ⟨⟨ns ++ [(l.getD ns.length default).int], by simp; omega, w3, w4⟩, (by simp; omega), Sub.of_check [] ?_ (by repeat' first | exact Gen0.emp | exact Gen0.ofH rfl | refine Gen0.put ?_ (by decide) | refine Gen0.put0 ?_ ⟨_, rfl⟩)⟩
    conv => whnf
    (iterate 3 ((all_goals try (conv => whnf)); (repeat' first | exact ⟨⟩ | refine And.intro ?_ ?_ | rfl | exact fun _ h => h | exact .inl rfl | exact none_some | exact .inr in4 | fail)))
    all_goals first | exact w1 | exact w2 | trace_state
  have hge : ns.length = l.length := by
    have : ¬ ns.length < l.length := by simpa using hl1
    omega
  have hle : l = ints ns := by rw [← ht, hge, List.take_length]
  subst hle
  have hn : ns.length ≤ 100 := by simpa using hl
  try rw [hl1]
  conv => whnf
  refine RegP.view ⟨[(0, .lz (.gl (ints ns))), (1, .int n), (6, .int (sumI 0 ns))], [], Sub.of_check [] ?_ (by repeat' first | exact Gen0.emp | exact Gen0.ofH rfl | refine Gen0.put ?_ (by decide) | refine Gen0.put0 ?_ ⟨_, rfl⟩), ?_⟩
  · conv => whnf
    (iterate 3 ((all_goals try (conv => whnf)); (repeat' first | exact ⟨⟩ | refine And.intro ?_ ?_ | rfl | exact fun _ h => h | exact .inl rfl | exact none_some | exact .inr in4 | fail)))
  refine fun hf => ?_
  conv => whnf
  repeat' ((first | refine RegP.enter ?_ | refine DrawP.range (by kernel_rfl) ?_ | refine BuildP.frz ⟨rfl, ?_⟩ | refine BoxP.row ?_ | refine And.intro (Nat.succ_pos _) ?_ | fail); conv => whnf)
  refine call_le (doc_ok oLiteral (gList (ints ns))) ?_ (by rfl) (by rfl) ?_
  · (iterate 3 ((all_goals try (conv => whnf)); (repeat' first | exact ⟨⟩ | refine And.intro ?_ ?_ | rfl | exact fun _ h => h | exact .inl rfl | exact none_some | exact .inr in4 | fail)))
  conv => whnf
  repeat' ((first | refine RegP.enter ?_ | refine DrawP.range (by kernel_rfl) ?_ | refine BuildP.frz ⟨rfl, ?_⟩ | refine BoxP.row ?_ | refine And.intro (Nat.succ_pos _) ?_ | fail); conv => whnf)
  obtain ⟨A, hA, eA⟩ := and127 n
  rw [eA]
  repeat' ((first | refine RegP.enter ?_ | refine DrawP.range (by kernel_rfl) ?_ | refine BuildP.frz ⟨rfl, ?_⟩ | refine BoxP.row ?_ | refine And.intro (Nat.succ_pos _) ?_ | refine call_same (int_ok A) rfl ?_ | fail); conv => whnf)
  refine call_le (call_ok oReverse [quoted ns]) ?_ (by rfl) (by rfl) ?_
  · (iterate 3 ((all_goals try (conv => whnf)); (repeat' first | exact ⟨⟩ | refine And.intro ?_ ?_ | rfl | exact fun _ h => h | exact .inl rfl | exact none_some | exact .inr in4 | fail)))
  conv => whnf
  repeat' ((first | refine RegP.enter ?_ | refine DrawP.range (by kernel_rfl) ?_ | refine BuildP.frz ⟨rfl, ?_⟩ | refine BoxP.row ?_ | refine And.intro (Nat.succ_pos _) ?_ | fail); conv => whnf)
  refine call_le (call_ok oReverse [gCall oReverse [quoted ns]]) ?_ (by rfl) (by rfl) ?_
  · (iterate 3 ((all_goals try (conv => whnf)); (repeat' first | exact ⟨⟩ | refine And.intro ?_ ?_ | rfl | exact fun _ h => h | exact .inl rfl | exact none_some | exact .inr in4 | fail)))
  conv => whnf
  repeat' ((first | refine RegP.enter ?_ | refine DrawP.range (by kernel_rfl) ?_ | refine BuildP.frz ⟨rfl, ?_⟩ | refine BoxP.row ?_ | refine And.intro (Nat.succ_pos _) ?_ | fail); conv => whnf)
  refine call_le (work_rev hn gZero) ?_ (by rfl) (by rfl) ?_
  · (iterate 3 ((all_goals try (conv => whnf)); (repeat' first | exact ⟨⟩ | refine And.intro ?_ ?_ | rfl | exact fun _ h => h | exact .inl rfl | exact none_some | exact .inr in4 | fail)))
  conv => whnf
  repeat' ((first | refine RegP.enter ?_ | refine DrawP.range (by kernel_rfl) ?_ | refine BuildP.frz ⟨rfl, ?_⟩ | refine BoxP.row ?_ | refine And.intro (Nat.succ_pos _) ?_ | refine call_same (int_ok 0) rfl ?_ | refine call_same (int_ok A) rfl ?_ | refine call_same (int_ok 1000) rfl ?_ | fail); conv => whnf)
  refine call_le (call_ok oSlice [quoted ns, gInt 0, gInt A]) ?_ (by rfl) (by rfl) ?_
  · (iterate 3 ((all_goals try (conv => whnf)); (repeat' first | exact ⟨⟩ | refine And.intro ?_ ?_ | rfl | exact fun _ h => h | exact .inl rfl | exact none_some | exact .inr in4 | fail)))
  conv => whnf
  repeat' ((first | refine RegP.enter ?_ | refine DrawP.range (by kernel_rfl) ?_ | refine BuildP.frz ⟨rfl, ?_⟩ | refine BoxP.row ?_ | refine And.intro (Nat.succ_pos _) ?_ | refine call_same (int_ok 0) rfl ?_ | refine call_same (int_ok A) rfl ?_ | refine call_same (int_ok 1000) rfl ?_ | fail); conv => whnf)
  refine call_le (call_ok oSlice [quoted ns, gInt A, gInt 1000]) ?_ (by rfl) (by rfl) ?_
  · (iterate 3 ((all_goals try (conv => whnf)); (repeat' first | exact ⟨⟩ | refine And.intro ?_ ?_ | rfl | exact fun _ h => h | exact .inl rfl | exact none_some | exact .inr in4 | fail)))
  conv => whnf
  repeat' ((first | refine RegP.enter ?_ | refine DrawP.range (by kernel_rfl) ?_ | refine BuildP.frz ⟨rfl, ?_⟩ | refine BoxP.row ?_ | refine And.intro (Nat.succ_pos _) ?_ | fail); conv => whnf)
  refine call_le (call_ok oJoin [gCall oSlice [quoted ns, gInt 0, gInt A], gCall oSlice [quoted ns, gInt A, gInt 1000]]) ?_ (by rfl) (by rfl) ?_
  · (iterate 3 ((all_goals try (conv => whnf)); (repeat' first | exact ⟨⟩ | refine And.intro ?_ ?_ | rfl | exact fun _ h => h | exact .inl rfl | exact none_some | exact .inr in4 | fail)))
  conv => whnf
  repeat' ((first | refine RegP.enter ?_ | refine DrawP.range (by kernel_rfl) ?_ | refine BuildP.frz ⟨rfl, ?_⟩ | refine BoxP.row ?_ | refine And.intro (Nat.succ_pos _) ?_ | fail); conv => whnf)
  refine call_le (work_join hn (A := A) (by omega) gZero) ?_ (by rfl) (by rfl) ?_
  · (iterate 3 ((all_goals try (conv => whnf)); (repeat' first | exact ⟨⟩ | refine And.intro ?_ ?_ | rfl | exact fun _ h => h | exact .inl rfl | exact none_some | exact .inr in4 | fail)))
  conv => whnf
  repeat' ((first | refine RegP.enter ?_ | refine DrawP.range (by kernel_rfl) ?_ | refine BuildP.frz ⟨rfl, ?_⟩ | refine BoxP.row ?_ | refine And.intro (Nat.succ_pos _) ?_ | refine call_same (text_ok tX) rfl ?_ | refine call_same (text_ok tDDX) rfl ?_ | fail); conv => whnf)
  refine call_le (call_ok oAdd [gText tDDX, gText tDDX]) ?_ (by rfl) (by rfl) ?_
  · (iterate 3 ((all_goals try (conv => whnf)); (repeat' first | exact ⟨⟩ | refine And.intro ?_ ?_ | rfl | exact fun _ h => h | exact .inl rfl | exact none_some | exact .inr in4 | fail)))
  conv => whnf
  repeat' ((first | refine RegP.enter ?_ | refine DrawP.range (by kernel_rfl) ?_ | refine BuildP.frz ⟨rfl, ?_⟩ | refine BoxP.row ?_ | refine And.intro (Nat.succ_pos _) ?_ | fail); conv => whnf)
  refine call_le (doc_ok oMap (.mk 5 0 ⟨#[]⟩ [] [(sInput, quoted ns), (sAs, gText tX), (sIn, gCall oAdd [gText tDDX, gText tDDX])])) ?_ (by rfl) (by rfl) ?_
  · (iterate 3 ((all_goals try (conv => whnf)); (repeat' first | exact ⟨⟩ | refine And.intro ?_ ?_ | rfl | exact fun _ h => h | exact .inl rfl | exact none_some | exact .inr in4 | fail)))
  conv => whnf
  repeat' ((first | refine RegP.enter ?_ | refine DrawP.range (by kernel_rfl) ?_ | refine BuildP.frz ⟨rfl, ?_⟩ | refine BoxP.row ?_ | refine And.intro (Nat.succ_pos _) ?_ | fail); conv => whnf)
  refine call_le (work_map hn hs gZero) ?_ (by rfl) (by rfl) ?_
  · (iterate 3 ((all_goals try (conv => whnf)); (repeat' first | exact ⟨⟩ | refine And.intro ?_ ?_ | rfl | exact fun _ h => h | exact .inl rfl | exact none_some | exact .inr in4 | fail)))
  conv => whnf
  repeat' ((first | refine RegP.enter ?_ | refine DrawP.range (by kernel_rfl) ?_ | refine BuildP.frz ⟨rfl, ?_⟩ | refine BoxP.row ?_ | refine And.intro (Nat.succ_pos _) ?_ | refine call_same (int_ok 0) rfl ?_ | refine call_same (text_ok tDDV) rfl ?_ | refine call_same (text_ok tDDT) rfl ?_ | fail); conv => whnf)
  refine call_le (call_ok oAdd [gText tDDV, gText tDDT]) ?_ (by rfl) (by rfl) ?_
  · (iterate 3 ((all_goals try (conv => whnf)); (repeat' first | exact ⟨⟩ | refine And.intro ?_ ?_ | rfl | exact fun _ h => h | exact .inl rfl | exact none_some | exact .inr in4 | fail)))
  conv => whnf
  repeat' ((first | refine RegP.enter ?_ | refine DrawP.range (by kernel_rfl) ?_ | refine BuildP.frz ⟨rfl, ?_⟩ | refine BoxP.row ?_ | refine And.intro (Nat.succ_pos _) ?_ | fail); conv => whnf)
  refine call_le (doc_ok oReduce (.mk 5 0 ⟨#[]⟩ [] [(sInput, quoted ns), (sInitial, gInt 0), (sIn, gCall oAdd [gText tDDV, gText tDDT])])) ?_ (by rfl) (by rfl) ?_
  · (iterate 3 ((all_goals try (conv => whnf)); (repeat' first | exact ⟨⟩ | refine And.intro ?_ ?_ | rfl | exact fun _ h => h | exact .inl rfl | exact none_some | exact .inr in4 | fail)))
  conv => whnf
  repeat' ((first | refine RegP.enter ?_ | refine DrawP.range (by kernel_rfl) ?_ | refine BuildP.frz ⟨rfl, ?_⟩ | refine BoxP.row ?_ | refine And.intro (Nat.succ_pos _) ?_ | fail); conv => whnf)
  refine call_le (work_red hn hs gZero) ?_ (by rfl) (by rfl) ?_
  · (iterate 3 ((all_goals try (conv => whnf)); (repeat' first | exact ⟨⟩ | refine And.intro ?_ ?_ | rfl | exact fun _ h => h | exact .inl rfl | exact none_some | exact .inr in4 | fail)))
  conv => whnf
  repeat' ((first | refine RegP.enter ?_ | refine DrawP.range (by kernel_rfl) ?_ | refine BuildP.frz ⟨rfl, ?_⟩ | refine BoxP.row ?_ | refine And.intro (Nat.succ_pos _) ?_ | fail); conv => whnf)
  refine call_le (same_ok (gList (ints ns))) ?_ (by rfl) (by rfl) ?_
  · (iterate 3 ((all_goals try (conv => whnf)); (repeat' first | exact ⟨⟩ | refine And.intro ?_ ?_ | rfl | exact fun _ h => h | exact .inl rfl | exact none_some | exact .inr in4 | fail)))
  conv => whnf
  repeat' ((first | refine RegP.enter ?_ | refine DrawP.range (by kernel_rfl) ?_ | refine BuildP.frz ⟨rfl, ?_⟩ | refine BoxP.row ?_ | refine And.intro (Nat.succ_pos _) ?_ | fail); conv => whnf)
  refine call_le (same_ok (gList (ints ns))) ?_ (by rfl) (by rfl) ?_
  · (iterate 3 ((all_goals try (conv => whnf)); (repeat' first | exact ⟨⟩ | refine And.intro ?_ ?_ | rfl | exact fun _ h => h | exact .inl rfl | exact none_some | exact .inr in4 | fail)))
  conv => whnf
  repeat' ((first | refine RegP.enter ?_ | refine DrawP.range (by kernel_rfl) ?_ | refine BuildP.frz ⟨rfl, ?_⟩ | refine BoxP.row ?_ | refine And.intro (Nat.succ_pos _) ?_ | fail); conv => whnf)
  rw [show ((gInt (sumI 0 ns)).int != sumI 0 ns) = false from bne_self_eq_false _]
  conv => whnf
  repeat' ((first | refine RegP.enter ?_ | refine DrawP.range (by kernel_rfl) ?_ | refine BuildP.frz ⟨rfl, ?_⟩ | refine BoxP.row ?_ | refine And.intro (Nat.succ_pos _) ?_ | fail); conv => whnf)
  rw [show (((gList (ints (dbl ns))).list.length : Int) != ((ints ns).length : Int)) = false by simp [gList, GV.list]]
  conv => whnf
  repeat' ((first | refine RegP.enter ?_ | refine DrawP.range (by kernel_rfl) ?_ | refine BuildP.frz ⟨rfl, ?_⟩ | refine BoxP.row ?_ | refine And.intro (Nat.succ_pos _) ?_ | fail); conv => whnf)
  refine ⟨3, {i : Nat // i ≤ ns.length}, fun i => ([(0, .lz (.gl (ints ns))), (18, .ptr (1,18,0) 0 0), (26, .int i.1)], [((1,18,0), .cells 5 80 [(gList (ints (dbl ns))).cells])]), fun i => ns.length - i.1, ⟨⟨0, Nat.zero_le _⟩, Sub.of_check [((1,18,0), .old true (1,18,0))] ?_ (by repeat' first | exact Gen0.emp | exact Gen0.ofH rfl | refine Gen0.put ?_ (by decide) | refine Gen0.put0 ?_ ⟨_, rfl⟩)⟩, fun ⟨i, hi⟩ => ?_⟩
  · conv => whnf
    (iterate 3 ((all_goals try (conv => whnf)); (repeat' first | exact ⟨⟩ | refine And.intro ?_ ?_ | rfl | exact fun _ h => h | exact .inl rfl | exact none_some | exact .inr in4 | fail)))
  conv => whnf
  refine RegP.enter ?_
  conv => whnf
  refine br (fun hl2 => ?_) (fun hl2 => ?_)
  rotate_left
  · try rw [hl2]
    conv => whnf
    repeat' ((first | refine RegP.enter ?_ | refine DrawP.range (by kernel_rfl) ?_ | refine BuildP.frz ⟨rfl, ?_⟩ | refine BoxP.row ?_ | refine And.intro (Nat.succ_pos _) ?_ | fail); conv => whnf)
    refine Ent.of_check ?_ rfl
    conv => whnf
    (iterate 3 ((all_goals try (conv => whnf)); (repeat' first | exact ⟨⟩ | refine And.intro ?_ ?_ | rfl | exact fun _ h => h | exact .inl rfl | exact none_some | exact .inr in4 | fail)))
  have hlt : i < (ints ns).length := Int.ofNat_lt.1 (of_decide_eq_true hl2)
  have hlt' : i < ns.length := by simpa using hlt
  have hlt2 : i < (ints (dbl ns)).length := by simpa using hlt
  try rw [hl2]
  conv => whnf
  refine RegP.enter ?_
  conv => whnf
  refine DrawP.range (by kernel_rfl) ?_
  conv => whnf
  repeat' first | (refine And.intro hlt ?_; conv => whnf) | (refine And.intro hlt2 ?_; conv => whnf)
  have w5 : IntKind.i64.wrap ((i : Int) + 1) = ((i + 1 : Nat) : Int) := wrap64 (by omega) (by omega)
  rw [show (((gList (ints (dbl ns))).list.getD (Subtype.mk (p := fun i => i ≤ ns.length) i hi).val default).int != IntKind.i64.wrap (2 * ((ints ns).getD (Subtype.mk (p := fun i => i ≤ ns.length) i hi).val default).int)) = false from dbl_get hs hlt']
  conv => whnf
  repeat' ((first | refine RegP.enter ?_ | refine DrawP.range (by kernel_rfl) ?_ | refine BuildP.frz ⟨rfl, ?_⟩ | refine BoxP.row ?_ | refine And.intro (Nat.succ_pos _) ?_ | fail); conv => whnf)
  refine ⟨⟨i + 1, hlt'⟩, (by show ns.length - (i + 1) < ns.length - i; omega), Sub.of_check [((1,18,0), .old true (1,18,0))] ?_ (by repeat' first | exact Gen0.emp | exact Gen0.ofH rfl | refine Gen0.put ?_ (by decide) | refine Gen0.put0 ?_ ⟨_, rfl⟩)⟩
  conv => whnf
  (iterate 3 ((all_goals try (conv => whnf)); (repeat' first | exact ⟨⟩ | refine And.intro ?_ ?_ | rfl | exact fun _ h => h | exact .inl rfl | exact none_some | exact .inr in4 | fail)))
  all_goals exact w5
end Go.Eng
/- A value of package value that is handed in from outside: what the form's reader reads, read as a tree. -/
namespace Go.Eng
open Go.Proofs
set_option maxRecDepth 20000
theorem choose_list {α : Type} [Inhabited α] {Q : Nat → α → Prop} : ∀ n, (∀ i, i < n → ∃ a, Q i a) → ∃ l : List α, l.length = n ∧ ∀ i, i < n → Q i (l.getD i default)
  | 0, _ => ⟨[], rfl, fun _ h => absurd h (Nat.not_lt_zero _)⟩
  | n + 1, h => by
    obtain ⟨l, hl, hq⟩ := choose_list n fun i hi => h i (Nat.lt_succ_of_lt hi)
    obtain ⟨a, ha⟩ := h n (Nat.lt_succ_self n)
    refine ⟨l ++ [a], by simp [hl], fun i hi => ?_⟩
    rcases Nat.lt_or_eq_of_le (Nat.le_of_lt_succ hi) with h1 | rfl
    · have : (l ++ [a]).getD i default = l.getD i default := by simp [List.getD_eq_getElem?_getD, List.getElem?_append_left (by omega : i < l.length)]
      rw [this]; exact hq i h1
    · have : (l ++ [a]).getD i default = a := by simp [List.getD_eq_getElem?_getD, ← hl]
      rw [this]; exact ha
theorem weightsAll_mem {H : Type} {P : Program} {e : TypeId} : ∀ {l : List (DataW H)} {d : DataW H}, d ∈ l → ∀ n ∈ d.weights P e, n ∈ DataW.weightsAll P e l
  | a :: l, d, hd, n, hn => by
    simp only [DataW.weightsAll, List.mem_append]
    rcases List.mem_cons.1 hd with rfl | h
    · exact Or.inl hn
    · exact Or.inr (weightsAll_mem h n hn)
  | [], _, hd, _, _ => by cases hd
theorem cells_at {W : World} {a : Addr} {n : Nat} {cs : List Value} (h : W.cells? 0 a n = some cs) : cs.length = n ∧ ∀ j, j < n → W.cell? (a.add j) = cs[j]? := by
  unfold World.cells? at h
  rw [if_pos (Nat.zero_le _)] at h
  exact ⟨by simpa using mapM_some_length h, fun j hj => mapM_some_get h j j (by simp [hj])⟩
theorem cell_lt {W : World} {a : Addr} {v : Value} (h : W.cell? a = some v) : a.block < W.heap.size := by
  unfold World.cell? at h
  cases hb : W.heap[a.block]? with
  | none => rw [hb] at h; cases h
  | some o => exact (Array.getElem?_eq_some_iff.1 hb).1
section
variable {H : Type} {enc : TypeId × Value → H} {W : World} {F : Nat → Prop}
def Light (d : DataW H) (t : TypeId) : Prop := ∀ n ∈ d.weights Tryz.prog t, n ≤ reachBytes
def RepCells (W : World) (F : Nat → Prop) (av : List AV) (cs : List Value) : Prop := av.length = cs.length ∧ ∀ j (h : j < av.length) (h' : j < cs.length), RepF W F av[j] cs[j] ∧ cs[j].oneCell' = true
theorem reach_R : reachBytes ≤ R := by decide
theorem slice_bridge {α : Type} [Inhabited α] {t e sz bs n : Nat} (f : α → List AV) (hf : ∀ a, (f a).length = sz) (h0 : 0 < sz) (ht : Tryz.prog.underlying t = some (.slice e)) (hc : Tryz.prog.cellsOf e = sz) (hb : Tryz.prog.bytesOf e = bs) (hF : ∀ b, b < W.heap.size → F b)
    (ih : ∀ cs x, DataW.trod enc Tryz.prog W 0 (fun _ => true) true n e cs = some x → Light x.1 e → ∃ a : α, RepCells W F (f a) cs) {cs : List Value} {x : DataW H × List MemPlace} (h : DataW.trod enc Tryz.prog W 0 (fun _ => true) true (n + 1) t cs = some x) (hw : Light x.1 t) :
    ∃ (l : List α) (v : Value), cs = [v] ∧ v.oneCell' = true ∧ RepF W F (.fsl none sz bs l.length (fun i => f (l.getD i default))) v := by
  rcases DataW.trod_slice ht h with ⟨rfl, rfl⟩ | ⟨a, len, cap, elems, rest, m, hm, rfl, rfl, hba, hlc, hcm, hel, he, hr, _⟩
  · exact ⟨[], _, rfl, rfl, .fsE fun m h => by cases h⟩
  rcases Nat.eq_zero_or_pos len with h1 | hpos
  · subst h1
    exact ⟨[], _, rfl, rfl, .fsE fun m h => by cases h⟩
  obtain rfl : m = n := (Nat.succ.inj hm).symm
  rw [hc] at he
  have hwt : ∀ n ∈ (elems.length + rest.length) * Tryz.prog.bytesOf e :: (DataW.weightsAll Tryz.prog e (elems.map (·.1)) ++ DataW.weightsAll Tryz.prog e (rest.map (·.1))), n ≤ reachBytes := by
    intro n hn
    refine hw n ?_
    simp only [DataW.weights, ht, List.length_map]
    exact hn
  have hlen : len * bs ≤ R := by
    have := hwt _ List.mem_cons_self
    rw [hb, hel] at this
    exact Nat.le_trans (Nat.mul_le_mul_right _ (Nat.le_add_right _ _)) (Nat.le_trans this reach_R)
  obtain ⟨l, hl, hq⟩ := choose_list (Q := fun i (g : α) => ∃ csi, W.cells? 0 (a.add (i * sz)) sz = some csi ∧ RepCells W F (f g) csi) len fun i hi => by
    have hi' : i < elems.length := by omega
    have := he i hi
    rw [List.getElem?_eq_getElem hi'] at this
    obtain ⟨csi, hcs, htr⟩ := Option.bind_eq_some_iff.1 this
    obtain ⟨g, hg⟩ := ih csi _ htr fun n hn => hwt n (List.mem_cons_of_mem _ (List.mem_append_left _ (weightsAll_mem (List.mem_map_of_mem (List.getElem_mem hi')) n hn)))
    exact ⟨g, csi, hcs, hg⟩
  obtain ⟨b, o, spot⟩ := a
  have hfirst : ∃ v, W.cell? ⟨b, o, spot⟩ = some v := by
    obtain ⟨csi, hcs, hg⟩ := hq 0 hpos
    obtain ⟨h1, h2⟩ := cells_at hcs
    have := h2 0 h0
    rw [List.getElem?_eq_getElem (by omega)] at this
    refine ⟨csi[0]'(by omega), ?_⟩
    simpa [Addr.add] using this
  obtain ⟨v0, hv0⟩ := hfirst
  have hspot : spot = none := by simpa using World.cell?_spot hv0
  subst hspot
  have hadd : ∀ i j : Nat, (Addr.add (Addr.add ⟨b, o, none⟩ (i * sz)) j) = ⟨b, o + i * sz + j, none⟩ := by
    intro i j
    rw [Go.WideShapes.add_plain, Go.WideShapes.add_plain]
  have hFb : F b := hF b (cell_lt hv0)
  subst hl
  refine ⟨l, _, rfl, rfl, .fs (fun i j => (W.cell? ⟨b, o + i * sz + j, none⟩).getD .nilIface) hpos hFb (fun m h => by cases h) hlc hlen (fun i _ => hf _) (fun i j hi hj => ?_) (fun i j hi hj => ?_)⟩
  · obtain ⟨csi, hcs, hg⟩ := hq i hi
    obtain ⟨h1, h2⟩ := cells_at hcs
    have h3 := h2 j hj
    rw [hadd, List.getElem?_eq_getElem (by omega)] at h3
    rw [h3]
    exact ⟨rfl, (hg.2 j (by rw [hf]; exact hj) (by omega)).2⟩
  · obtain ⟨csi, hcs, hg⟩ := hq i hi
    obtain ⟨h1, h2⟩ := cells_at hcs
    have hj' : j < sz := by rw [hf] at hj; exact hj
    have h3 := h2 j hj'
    rw [hadd, List.getElem?_eq_getElem (by omega)] at h3
    show RepF W F ((f (l.getD i default))[j]) ((W.cell? ⟨b, o + i * sz + j, none⟩).getD .nilIface)
    rw [h3]
    exact (hg.2 j hj (by omega)).1
theorem c3 : Tryz.prog.cellsOf 3 = 1 := by kernel_rfl
theorem c9 : Tryz.prog.cellsOf 9 = 1 := by kernel_rfl
theorem c27 : Tryz.prog.cellsOf 27 = 1 := by kernel_rfl
theorem c28 : Tryz.prog.cellsOf 28 = 1 := by kernel_rfl
theorem c30 : Tryz.prog.cellsOf 30 = 5 := by kernel_rfl
theorem c52 : Tryz.prog.cellsOf 52 = 6 := by kernel_rfl
theorem b30 : Tryz.prog.bytesOf 30 = 80 := by kernel_rfl
theorem b52 : Tryz.prog.bytesOf 52 = 96 := by kernel_rfl
theorem light_agg {parts : List (DataW H)} {t : TypeId} {fs : Array Field} (ht : Tryz.prog.underlying t = some (.struct fs)) (h : Light (.agg parts) t) {j : Nat} {f : Field} {d : DataW H} (hf : fs[j]? = some f) (hd : parts[j]? = some d) : Light d f.type := by
  intro n hn
  refine h n ?_
  simp only [DataW.weights, ht]
  exact DataW.weights_mem_each (j := j) (by simp [hf]) hd n hn
theorem rep_int {k : IntKind} {n : Int} : RepF W F (.lit (.int k n)) (.int k n) := .lit (show Plain (.int _ _) from trivial)
theorem five {α : Type} {l : List α} (h : l.length = 5) : ∃ a b c d e, l = [a, b, c, d, e] := by
  match l, h with
  | [a, b, c, d, e], _ => exact ⟨a, b, c, d, e, rfl⟩
theorem two_of {α : Type} {l : List α} (h : l.length = 2) : ∃ a b, l = [a, b] := by
  match l, h with
  | [a, b], _ => exact ⟨a, b, rfl⟩
theorem six {α : Type} {l : List α} (h : l.length = 6) : ∃ a b c d e f, l = [a, b, c, d, e, f] := by
  match l, h with
  | [a, b, c, d, e, f], _ => exact ⟨a, b, c, d, e, f, rfl⟩
theorem string_bridge {n : Nat} {cs : List Value} {x : DataW H × List MemPlace} (h : DataW.trod enc Tryz.prog W 0 (fun _ => true) true n 9 cs = some x) (hw : Light x.1 9) : ∃ s : ByteArray, cs = [.string s] ∧ RepF W F (.lit (.string s)) (.string s) := by
  obtain ⟨s, rfl, rfl, _⟩ := DataW.trod_string Tryz.underlying9 h
  refine ⟨s, rfl, .lit ?_⟩
  have : s.data.toList.length ≤ reachBytes := hw _ (by simp [DataW.weights])
  show s.size ≤ R
  exact Nat.le_trans (by simpa using this) reach_R
theorem value_bridge (hF : ∀ b, b < W.heap.size → F b) : ∀ (n : Nat) (cs : List Value) (x : DataW H × List MemPlace), DataW.trod enc Tryz.prog W 0 (fun _ => true) true n 30 cs = some x → Light x.1 30 → ∃ g : GV, RepCells W F g.cells cs := by
  intro n
  induction n using Nat.strongRecOn with
  | _ n ih =>
  intro cs x h hw
  obtain ⟨xs, m, rfl, rfl, hl, hxl, hx⟩ := DataW.trod_struct Tryz.underlying30 h
  rw [c30] at hl
  obtain ⟨c0, c1, c2, cl, cd, rfl⟩ := five hl
  obtain ⟨x0, x1, x2, xl, xd, rfl⟩ := five hxl
  have f0 := hx 0 _ rfl
  have f1 := hx 1 _ rfl
  have f2 := hx 2 _ rfl
  have f3 := hx 3 _ rfl
  have f4 := hx 4 _ rfl
  simp only [c3, c9, c27, c28, List.drop_zero, List.drop_succ_cons, List.take_succ_cons, List.take_zero, List.getElem?_cons_zero, List.getElem?_cons_succ] at f0 f1 f2 f3 f4
  have w2 : Light x2.1 9 := light_agg Tryz.underlying30 hw (j := 2) rfl rfl
  have w3 : Light xl.1 27 := light_agg Tryz.underlying30 hw (j := 3) rfl rfl
  have w4 : Light xd.1 28 := light_agg Tryz.underlying30 hw (j := 4) rfl rfl
  obtain ⟨k, e0, _, _⟩ := DataW.trod_int Tryz.underlying3 f0
  obtain ⟨i, e1, _, _⟩ := DataW.trod_int Tryz.underlying3 f1
  obtain ⟨s, e2, r2⟩ := string_bridge (F := F) f2 w2
  cases m with
  | zero => simp [DataW.trod] at f3
  | succ m =>
  obtain ⟨l, vl, e3, o3, r3⟩ := slice_bridge (F := F) (α := GV) (sz := 5) (bs := 80) (n := m) GV.cells (fun _ => rfl) (by decide) Tryz.underlying27 c30 b30 hF (ih m (by omega)) f3 w3
  obtain ⟨d, vd, e4, o4, r4⟩ := slice_bridge (F := F) (α := ByteArray × GV) (sz := 6) (bs := 96) (n := m) fcells (fun _ => rfl) (by decide) Tryz.underlying28 c52 b52 hF (fun cs x h hw => by
    obtain ⟨ys, p, rfl, rfl, hl, hyl, hy⟩ := DataW.trod_struct Tryz.underlying52 h
    rw [c52] at hl
    obtain ⟨d0, d1, d2, d3, d4, d5, rfl⟩ := six hl
    obtain ⟨y0, y1, rfl⟩ := two_of hyl
    have g0 := hy 0 _ rfl
    have g1 : DataW.trod enc Tryz.prog W 0 (fun _ => true) true p 30 [d1, d2, d3, d4, d5] = some y1 := by
      have : DataW.trod enc Tryz.prog W 0 (fun _ => true) true p 30 (List.take (Tryz.prog.cellsOf 30) [d1, d2, d3, d4, d5]) = some y1 := hy 1 _ rfl
      rw [c30] at this
      exact this
    simp only [c9, c30, List.drop_zero, List.drop_succ_cons, List.take_succ_cons, List.take_zero, List.getElem?_cons_zero, List.getElem?_cons_succ] at g0
    have v0 : Light y0.1 9 := light_agg Tryz.underlying52 hw (j := 0) rfl rfl
    have v1 : Light y1.1 30 := light_agg Tryz.underlying52 hw (j := 1) rfl rfl
    obtain ⟨nm, q0, u0⟩ := string_bridge (F := F) g0 v0
    obtain ⟨g, hg⟩ := ih p (by omega) _ _ g1 v1
    cases q0
    refine ⟨(nm, g), by simpa [fcells] using hg.1, fun j h1 h2 => ?_⟩
    match j, h1, h2 with
    | 0, _, _ => exact ⟨u0, rfl⟩
    | j + 1, h1, h2 => exact hg.2 j (Nat.lt_of_succ_lt_succ h1) (Nat.lt_of_succ_lt_succ h2)) f4 w4
  cases e0; cases e1; cases e2; cases e3; cases e4
  refine ⟨.mk k i s l d, rfl, fun j h1 h2 => ?_⟩
  match j, h1, h2 with
  | 0, _, _ => exact ⟨rep_int, rfl⟩
  | 1, _, _ => exact ⟨rep_int, rfl⟩
  | 2, _, _ => exact ⟨r2, rfl⟩
  | 3, _, _ => exact ⟨.lz r3, o3⟩
  | 4, _, _ => exact ⟨.lz r4, o4⟩
/-- A list of values that is handed in. -/
theorem values_bridge (hF : ∀ b, b < W.heap.size → F b) {v : Value} {d : DataW H} {ps : List MemPlace} (h : DataW.Trod enc Tryz.prog W 0 (fun _ => true) true 27 v d ps) (hv : v.cells = #[v]) (hw : Light d 27) : ∃ l : List GV, RepF W F (.lz (.gl l)) v := by
  obtain ⟨n, hn⟩ := h
  rw [hv] at hn
  cases n with
  | zero => simp [DataW.trod] at hn
  | succ n =>
  obtain ⟨l, u, e, _, r⟩ := slice_bridge (F := F) (α := GV) (sz := 5) (bs := 80) (n := n) GV.cells (fun _ => rfl) (by decide) Tryz.underlying27 c30 b30 hF (value_bridge hF n) hn hw
  cases e
  exact ⟨l, .lz r⟩
end
end Go.Eng

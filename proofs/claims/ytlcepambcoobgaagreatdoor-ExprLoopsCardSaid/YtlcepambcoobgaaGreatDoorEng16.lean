/- Eng16: an engine for the program's code, and walks of its functions (We Wf Wg Wh). -/
import Derived.Test.YtlcepambcoobgaaGreatDoorEng15
namespace Go.Eng
open Go.Proofs
set_option maxRecDepth 10000
theorem findS_names (s : ByteArray) : ∀ (l : List (ByteArray × GV)), findS s (l.map fun f => (AV.str f.1, AV.agg [])) = some (match memB s (l.map (·.1)) with | true => some (.agg []) | false => none)
  | [] => rfl
  | f :: l => by
    simp only [List.map_cons, findS, memB]
    cases h : decide (s = f.1) with
    | true => rfl
    | false => simp only [Bool.false_or]; exact findS_names s l
theorem setS_names (s : ByteArray) : ∀ (l : List (ByteArray × GV)), memB s (l.map (·.1)) = false → setS s (.agg []) (l.map fun f => (AV.str f.1, AV.agg [])) = some (l.map (fun f => (AV.str f.1, AV.agg [])) ++ [(AV.str s, AV.agg [])])
  | [], _ => rfl
  | f :: l, h => by
    simp only [List.map_cons, memB, Bool.or_eq_false_iff] at h
    simp only [List.map_cons, setS, h.1, setS_names s l h.2, List.cons_append]
theorem memB_append (s : ByteArray) : ∀ (l m : List ByteArray), memB s (l ++ m) = (memB s l || memB s m)
  | [], m => by simp [memB]
  | a :: l, m => by simp only [List.cons_append, memB, memB_append s l m, Bool.or_assoc]
theorem memB_reverse (s : ByteArray) : ∀ (l : List ByteArray), memB s l.reverse = memB s l
  | [] => rfl
  | a :: l => by
    simp only [List.reverse_cons, memB_append, memB_reverse s l, memB, Bool.or_false]
    exact Bool.or_comm _ _
theorem checkL_drop {n : Nat} {l : List GV} {i : Nat} (h : i < l.length) : checkL n (l.drop i) = (match decide (checkM n (l.getD i default) = 0) with | true => checkL n (l.drop (i + 1)) | false => checkM n (l.getD i default)) := by
  have e : l.getD i default = l[i] := by simp [h]
  rw [List.drop_eq_getElem_cons h, checkL, e]; rfl
theorem checkD_drop {n : Nat} {m : List ByteArray} {l : List (ByteArray × GV)} {i : Nat} (h : i < l.length) : checkD n m (l.drop i) = (match memB (l.getD i default).1 m || !nameM (l.getD i default).1 with | true => 11 | false => match decide (checkM n (l.getD i default).2 = 0) with | true => checkD n ((l.getD i default).1 :: m) (l.drop (i + 1)) | false => checkM n (l.getD i default).2) := by
  rw [List.drop_eq_getElem_cons h]
  have : l.getD i default = l[i] := by simp [h]
  rw [this]
  generalize l[i] = f
  obtain ⟨a, g⟩ := f
  rw [checkD]; rfl
theorem wrong_list {k n : Int} {t : ByteArray} {l : List GV} {d : List (ByteArray × GV)} (h : wrongM (.mk k n t l d) = false) (hl : 0 < l.length) : k = 6 := by
  unfold wrongM at h
  cases l with
  | nil => simp at hl
  | cons a l => repeat' (split at h) <;> simp_all
theorem wrong_doc {k n : Int} {t : ByteArray} {l : List GV} {d : List (ByteArray × GV)} (h : wrongM (.mk k n t l d) = false) (hl : 0 < d.length) : k = 5 := by
  unfold wrongM at h
  cases d with
  | nil => simp at hl
  | cons a l => repeat' (split at h) <;> simp_all
theorem names_succ {d : List (ByteArray × GV)} {i : Nat} (h : i < d.length) : ((d.take (i + 1)).map (·.1)).reverse = (d.getD i default).1 :: ((d.take i).map (·.1)).reverse := by
  rw [take_succ' h]; simp
set_option maxHeartbeats 4000000 in
theorem check_spec : ∀ (n : Nat) (g : GV), SizeOf.sizeOf g < n → ∀ (deep : Nat), deep ≤ 1000 → PSpec cxA 68 [.agg g.cells, .int deep] (.ret (.int (checkM deep g))) := by
  intro n
  induction n with
  | zero => intro g h; exact absurd h (Nat.not_lt_zero _)
  | succ n ih =>
  intro g hg deep hd
  generalize hr : checkM deep g = r
  obtain ⟨kind, int, text, list, doc⟩ := g
  refine PSpec.of_WC cxA_ok Tryz.func68 rfl Tryz.call68 (Nat.le_of_ble_eq_true rfl) (g := 1) ?_
  conv => whnf
  refine RegP.enter ?_
  conv => whnf
  refine BoxP.frz ⟨rfl, ?_⟩
  conv => whnf
  repeat' ((first | refine RegP.enter ?_ | refine DrawP.range (by kernel_rfl) ?_ | refine BuildP.frz ⟨rfl, ?_⟩ | refine BoxP.row ?_ | refine And.intro (Nat.succ_pos _) ?_ | fail); conv => whnf)
  have tooDeep : ((decide (kind = 5) || decide (kind = 6)) && decide (20 < deep)) = true → r = 12 := fun h => by rw [← hr, checkM, h]
  have isWrong : ((decide (kind = 5) || decide (kind = 6)) && decide (20 < deep)) = false → wrongM (.mk kind int text list doc) = true → r = 10 := fun h h2 => by rw [← hr, checkM, h, h2]
  have isFine : ((decide (kind = 5) || decide (kind = 6)) && decide (20 < deep)) = false → wrongM (.mk kind int text list doc) = false → r = (match decide (checkL (deep + 1) list = 0) with | true => checkD (deep + 1) [] doc | false => checkL (deep + 1) list) := fun h h2 => by rw [← hr, checkM, h, h2]; rfl
  repeat' first | (refine RegP.enter ?_; conv => whnf) | (refine DrawP.range (by kernel_rfl) ?_; conv => whnf) | (refine BuildP.frz ⟨rfl, ?_⟩; conv => whnf) | (refine BoxP.row ?_; conv => whnf) | (refine And.intro Nat.zero_lt_one ?_; conv => whnf) | (refine And.intro (Nat.succ_pos _) ?_; conv => whnf) | (refine br (fun hb => ?_) (fun hb => ?_) <;> (try rw [hb]) <;> (conv => whnf)) | fail
  case' refine_1.refine_1 =>
    obtain rfl := tooDeep (by simp [GV.kind, dT, dF] at *; omega)
    refine Ent.of_check ?_ rfl
    conv => whnf
    (iterate 3 ((all_goals try (conv => whnf)); (repeat' first | exact ⟨⟩ | refine And.intro ?_ ?_ | rfl | exact fun _ h => h | exact .inl rfl | exact none_some | exact .inr in4 | fail)))
  case' refine_2.refine_1.refine_1 =>
    obtain rfl := tooDeep (by simp [GV.kind, dT, dF] at *; omega)
    refine Ent.of_check ?_ rfl
    conv => whnf
    (iterate 3 ((all_goals try (conv => whnf)); (repeat' first | exact ⟨⟩ | refine And.intro ?_ ?_ | rfl | exact fun _ h => h | exact .inl rfl | exact none_some | exact .inr in4 | fail)))
  all_goals
    have hc : ((decide (kind = 5) || decide (kind = 6)) && decide (20 < deep)) = false := by simp [GV.kind, dT, dF] at *; omega
    replace isWrong := isWrong hc
    replace isFine := isFine hc
    clear tooDeep hr
    refine call_same (wrong_ok (GV.mk kind int text list doc)) rfl ?_
    conv => whnf
    refine br (fun hw => ?_) (fun hw => ?_)
    · obtain rfl := isWrong hw
      try rw [hw]
      conv => whnf
      repeat' ((first | refine RegP.enter ?_ | refine DrawP.range (by kernel_rfl) ?_ | refine BuildP.frz ⟨rfl, ?_⟩ | refine BoxP.row ?_ | refine And.intro (Nat.succ_pos _) ?_ | fail); conv => whnf)
      refine Ent.of_check ?_ rfl
      conv => whnf
      (iterate 3 ((all_goals try (conv => whnf)); (repeat' first | exact ⟨⟩ | refine And.intro ?_ ?_ | rfl | exact fun _ h => h | exact .inl rfl | exact none_some | exact .inr in4 | fail)))
    replace isFine := isFine hw
    try rw [hw]
    conv => whnf
    repeat' ((first | refine RegP.enter ?_ | refine DrawP.range (by kernel_rfl) ?_ | refine BuildP.frz ⟨rfl, ?_⟩ | refine BoxP.row ?_ | refine And.intro (Nat.succ_pos _) ?_ | fail); conv => whnf)
    refine ⟨2, {i : Nat // i ≤ list.length ∧ checkL (deep + 1) list = checkL (deep + 1) (list.drop i)}, fun i => ([(1, .int deep), (2, .fptr 5 1 (fun _ => (GV.mk kind int text list doc).cells) 0 0), (29, .lz (.gl list)), (30, .int list.length), (31, .int i.1)], []), fun i => list.length - i.1, ⟨⟨0, Nat.zero_le _, rfl⟩, Sub.of_check [] ?_ (by repeat' first | exact Gen0.emp | exact Gen0.ofH rfl | refine Gen0.put ?_ (by decide) | refine Gen0.put0 ?_ ⟨_, rfl⟩)⟩, fun ⟨i, hi, hia⟩ => ?_⟩
    · conv => whnf
      (iterate 3 ((all_goals try (conv => whnf)); (repeat' first | exact ⟨⟩ | refine And.intro ?_ ?_ | rfl | exact fun _ h => h | exact .inl rfl | exact none_some | exact .inr in4 | fail)))
    conv => whnf
    refine RegP.go fun hf => ?_
    conv => whnf
    refine br (fun hl => ?_) (fun hl => ?_)
    · have hlt : i < list.length := by simpa using hl
      have hk6 := wrong_list hw (by omega : 0 < list.length)
      have hd20 : deep ≤ 20 := by simp [hk6] at hc; exact hc
      have hR := le_of_mul (k := 79) (hf.lz 29 _ _ _ _ _ _ rfl rfl)
      rw [checkL_drop hlt] at hia
      try rw [hl]
      conv => whnf
      refine RegP.enter ?_
      conv => whnf
      refine And.intro (hlt) ?_
      conv => whnf
      refine And.intro (hlt) ?_
      conv => whnf
      repeat' ((first | refine RegP.enter ?_ | refine DrawP.range (by kernel_rfl) ?_ | refine BuildP.frz ⟨rfl, ?_⟩ | refine BoxP.row ?_ | refine And.intro (Nat.succ_pos _) ?_ | fail); conv => whnf)
      have hmem : list.getD i default ∈ list := by simp [hlt]
      have hsm := GV.sizeOf_list (k := kind) (n := int) (t := text) (d := doc) hmem
      refine call_le (ih (list.getD i default) (by omega) (deep + 1) (by omega)) ?_ (by rfl) (by rfl) ?_
      · (iterate 3 ((all_goals try (conv => whnf)); (repeat' first | exact ⟨⟩ | refine And.intro ?_ ?_ | rfl | exact fun _ h => h | exact .inl rfl | exact none_some | exact .inr in4 | fail)))
        all_goals (exact wrap64 (show -9223372036854775808 ≤ (deep : Int) + 1 by omega) (show (deep : Int) + 1 < 9223372036854775808 by omega))
      conv => whnf
      repeat' ((first | refine RegP.enter ?_ | refine DrawP.range (by kernel_rfl) ?_ | refine BuildP.frz ⟨rfl, ?_⟩ | refine BoxP.row ?_ | refine And.intro (Nat.succ_pos _) ?_ | fail); conv => whnf)
      refine br (fun hx => ?_) (fun hx => ?_)
      · have hne : checkM (deep + 1) (list.getD i default) ≠ 0 := by simpa using hx
        rw [decide_eq_false hne] at hia
        rw [hia, decide_eq_false hne] at isFine
        try rw [hx]
        conv => whnf
        repeat' ((first | refine RegP.enter ?_ | refine DrawP.range (by kernel_rfl) ?_ | refine BuildP.frz ⟨rfl, ?_⟩ | refine BoxP.row ?_ | refine And.intro (Nat.succ_pos _) ?_ | fail); conv => whnf)
        refine Ent.of_check ?_ rfl
        conv => whnf
        (iterate 3 ((all_goals try (conv => whnf)); (repeat' first | exact ⟨⟩ | refine And.intro ?_ ?_ | rfl | exact fun _ h => h | exact .inl rfl | exact none_some | exact .inr in4 | fail)))
        exact isFine.symm
      · have heq : checkM (deep + 1) (list.getD i default) = 0 := by simpa using hx
        rw [decide_eq_true heq] at hia
        try rw [hx]
        conv => whnf
        repeat' ((first | refine RegP.enter ?_ | refine DrawP.range (by kernel_rfl) ?_ | refine BuildP.frz ⟨rfl, ?_⟩ | refine BoxP.row ?_ | refine And.intro (Nat.succ_pos _) ?_ | fail); conv => whnf)
        refine ⟨⟨i + 1, hlt, hia⟩, (by show list.length - (i + 1) < list.length - i; omega), Sub.of_check [] ?_ (by repeat' first | exact Gen0.emp | exact Gen0.ofH rfl | refine Gen0.put ?_ (by decide) | refine Gen0.put0 ?_ ⟨_, rfl⟩)⟩
        conv => whnf
        (iterate 3 ((all_goals try (conv => whnf)); (repeat' first | exact ⟨⟩ | refine And.intro ?_ ?_ | rfl | exact fun _ h => h | exact .inl rfl | exact none_some | exact .inr in4 | fail)))
        all_goals exact wrap_succ hlt hR
    have hge : i = list.length := by
      have : ¬ i < list.length := by simpa using hl
      omega
    have hl0 : checkL (deep + 1) list = 0 := by rw [hia, hge, List.drop_length]; rfl
    rw [hl0] at isFine
    replace isFine : r = checkD (deep + 1) [] doc := isFine
    try rw [hl]
    conv => whnf
    repeat' ((first | refine RegP.enter ?_ | refine DrawP.range (by kernel_rfl) ?_ | refine BuildP.frz ⟨rfl, ?_⟩ | refine BoxP.row ?_ | refine And.intro (Nat.succ_pos _) ?_ | fail); conv => whnf)
    refine ⟨3, {i : Nat // i ≤ doc.length ∧ checkD (deep + 1) [] doc = checkD (deep + 1) ((doc.take i).map (·.1)).reverse (doc.drop i)}, fun i => ([(1, .int deep), (8, .mref (3,0,0)), (45, .lz (.gd doc)), (46, .int doc.length), (47, .int i.1)], [((3,0,0), .map ((doc.take i.1).map fun f => (AV.str f.1, AV.agg [])))]), fun i => doc.length - i.1, ⟨⟨0, Nat.zero_le _, rfl⟩, Sub.of_check [((3,0,0), .old false (1,43,0))] ?_ (by repeat' first | exact Gen0.emp | exact Gen0.ofH rfl | refine Gen0.put ?_ (by decide) | refine Gen0.put0 ?_ ⟨_, rfl⟩)⟩, fun ⟨j, hj, hja⟩ => ?_⟩
    · conv => whnf
      (iterate 3 ((all_goals try (conv => whnf)); (repeat' first | exact ⟨⟩ | refine And.intro ?_ ?_ | rfl | exact fun _ h => h | exact .inl rfl | exact none_some | exact .inr in4 | fail)))
      all_goals simp
    conv => whnf
    refine RegP.go fun hf => ?_
    conv => whnf
    refine br (fun hl2 => ?_) (fun hl2 => ?_)
    rotate_left
    · have hge : j = doc.length := by
        have : ¬ j < doc.length := by simpa using hl2
        omega
      have hd0 : checkD (deep + 1) [] doc = 0 := by rw [hja, hge, List.drop_length]; rfl
      try rw [hl2]
      conv => whnf
      repeat' ((first | refine RegP.enter ?_ | refine DrawP.range (by kernel_rfl) ?_ | refine BuildP.frz ⟨rfl, ?_⟩ | refine BoxP.row ?_ | refine And.intro (Nat.succ_pos _) ?_ | fail); conv => whnf)
      refine Ent.of_check ?_ rfl
      conv => whnf
      (iterate 3 ((all_goals try (conv => whnf)); (repeat' first | exact ⟨⟩ | refine And.intro ?_ ?_ | rfl | exact fun _ h => h | exact .inl rfl | exact none_some | exact .inr in4 | fail)))
      rw [isFine, hd0]
    have hlt : j < doc.length := by simpa using hl2
    have hk5 := wrong_doc hw (by omega : 0 < doc.length)
    have hd20 : deep ≤ 20 := by simp [hk5] at hc; exact hc
    have hR := le_of_mul (k := 95) (hf.lz 45 _ _ _ _ _ _ rfl rfl)
    rw [checkD_drop hlt, memB_reverse] at hja
    try rw [hl2]
    conv => whnf
    refine RegP.enter ?_
    conv => whnf
    refine And.intro (hlt) ?_
    conv => whnf
    refine And.intro (hlt) ?_
    conv => whnf
    repeat' ((first | refine RegP.enter ?_ | refine DrawP.range (by kernel_rfl) ?_ | refine BuildP.frz ⟨rfl, ?_⟩ | refine BoxP.row ?_ | refine And.intro (Nat.succ_pos _) ?_ | fail); conv => whnf)
    refine ⟨_, findS_names _ _, ?_⟩
    cases hmb : memB (doc.getD j default).1 ((doc.take j).map (·.1))
    rotate_left
    · rw [hmb] at hja
      conv => whnf
      repeat' ((first | refine RegP.enter ?_ | refine DrawP.range (by kernel_rfl) ?_ | refine BuildP.frz ⟨rfl, ?_⟩ | refine BoxP.row ?_ | refine And.intro (Nat.succ_pos _) ?_ | fail); conv => whnf)
      refine Ent.of_check ?_ rfl
      conv => whnf
      (iterate 3 ((all_goals try (conv => whnf)); (repeat' first | exact ⟨⟩ | refine And.intro ?_ ?_ | rfl | exact fun _ h => h | exact .inl rfl | exact none_some | exact .inr in4 | fail)))
      rw [isFine, hja]; rfl
    conv => whnf
    repeat' ((first | refine RegP.enter ?_ | refine DrawP.range (by kernel_rfl) ?_ | refine BuildP.frz ⟨rfl, ?_⟩ | refine BoxP.row ?_ | refine And.intro (Nat.succ_pos _) ?_ | fail); conv => whnf)
    refine call_same (name_ok _) rfl ?_
    conv => whnf
    rw [hmb] at hja
    have hmem : doc.getD j default ∈ doc := by simp [hlt]
    have hsm := GV.sizeOf_doc (k := kind) (n := int) (t := text) (l := list) hmem
    refine br (fun hn => ?_) (fun hn => ?_)
    · rw [show nameM (doc.getD j default).1 = false by simpa using hn] at hja
      try rw [hn]
      conv => whnf
      repeat' ((first | refine RegP.enter ?_ | refine DrawP.range (by kernel_rfl) ?_ | refine BuildP.frz ⟨rfl, ?_⟩ | refine BoxP.row ?_ | refine And.intro (Nat.succ_pos _) ?_ | fail); conv => whnf)
      refine Ent.of_check ?_ rfl
      conv => whnf
      (iterate 3 ((all_goals try (conv => whnf)); (repeat' first | exact ⟨⟩ | refine And.intro ?_ ?_ | rfl | exact fun _ h => h | exact .inl rfl | exact none_some | exact .inr in4 | fail)))
      rw [isFine, hja]; rfl
    rw [show nameM (doc.getD j default).1 = true by simpa using hn] at hja
    try rw [hn]
    conv => whnf
    repeat' ((first | refine RegP.enter ?_ | refine DrawP.range (by kernel_rfl) ?_ | refine BuildP.frz ⟨rfl, ?_⟩ | refine BoxP.row ?_ | refine And.intro (Nat.succ_pos _) ?_ | fail); conv => whnf)
    refine ⟨_, setS_names _ _ hmb, ?_⟩
    conv => whnf
    repeat' ((first | refine RegP.enter ?_ | refine DrawP.range (by kernel_rfl) ?_ | refine BuildP.frz ⟨rfl, ?_⟩ | refine BoxP.row ?_ | refine And.intro (Nat.succ_pos _) ?_ | fail); conv => whnf)
    refine call_le (ih (doc.getD j default).2 (by omega) (deep + 1) (by omega)) ?_ (by rfl) (by rfl) ?_
    · (iterate 3 ((all_goals try (conv => whnf)); (repeat' first | exact ⟨⟩ | refine And.intro ?_ ?_ | rfl | exact fun _ h => h | exact .inl rfl | exact none_some | exact .inr in4 | fail)))
      all_goals (exact wrap64 (show -9223372036854775808 ≤ (deep : Int) + 1 by omega) (show (deep : Int) + 1 < 9223372036854775808 by omega))
    conv => whnf
    repeat' ((first | refine RegP.enter ?_ | refine DrawP.range (by kernel_rfl) ?_ | refine BuildP.frz ⟨rfl, ?_⟩ | refine BoxP.row ?_ | refine And.intro (Nat.succ_pos _) ?_ | fail); conv => whnf)
    refine br (fun hx => ?_) (fun hx => ?_)
    · have hne : checkM (deep + 1) (doc.getD j default).2 ≠ 0 := by simpa using hx
      rw [decide_eq_false hne] at hja
      try rw [hx]
      conv => whnf
      repeat' ((first | refine RegP.enter ?_ | refine DrawP.range (by kernel_rfl) ?_ | refine BuildP.frz ⟨rfl, ?_⟩ | refine BoxP.row ?_ | refine And.intro (Nat.succ_pos _) ?_ | fail); conv => whnf)
      refine Ent.of_check ?_ rfl
      conv => whnf
      (iterate 3 ((all_goals try (conv => whnf)); (repeat' first | exact ⟨⟩ | refine And.intro ?_ ?_ | rfl | exact fun _ h => h | exact .inl rfl | exact none_some | exact .inr in4 | fail)))
      rw [isFine, hja]; rfl
    · have heq : checkM (deep + 1) (doc.getD j default).2 = 0 := by simpa using hx
      rw [decide_eq_true heq] at hja
      try rw [hx]
      conv => whnf
      repeat' ((first | refine RegP.enter ?_ | refine DrawP.range (by kernel_rfl) ?_ | refine BuildP.frz ⟨rfl, ?_⟩ | refine BoxP.row ?_ | refine And.intro (Nat.succ_pos _) ?_ | fail); conv => whnf)
      refine ⟨⟨j + 1, hlt, by rw [names_succ hlt]; exact hja⟩, (by show doc.length - (j + 1) < doc.length - j; omega), Sub.of_check [((3,0,0), .old false (3,0,0))] ?_ (by repeat' first | exact Gen0.emp | exact Gen0.ofH rfl | refine Gen0.put ?_ (by decide) | refine Gen0.put0 ?_ ⟨_, rfl⟩)⟩
      conv => whnf
      (iterate 3 ((all_goals try (conv => whnf)); (repeat' first | exact ⟨⟩ | refine And.intro ?_ ?_ | rfl | exact fun _ h => h | exact .inl rfl | exact none_some | exact .inr in4 | fail)))
      all_goals first | exact wrap_succ hlt hR | (show _ = ((doc.take (j + 1)).map fun f => (AV.str f.1, AV.agg [])); rw [take_succ' hlt, List.map_append]; rfl) | (intro p hp; obtain ⟨f, _, rfl⟩ := List.mem_map.1 hp; exact ⟨rfl, rfl⟩) | (rw [isFine, hja]; rfl) | trace_state
end Go.Eng
namespace Go.Eng
open Go.Proofs
set_option maxRecDepth 10000
theorem check_ok (g : GV) (deep : Nat) (h : deep ≤ 1000) : PSpec cxA 68 [.agg g.cells, .int deep] (.ret (.int (checkM deep g))) := check_spec _ g (Nat.lt_succ_self _) deep h
theorem right_ok (g : GV) : PSpec cxA 25 [.agg g.cells] (.ret (.int (rightM g))) := by
  refine PSpec.of_WC cxA_ok Tryz.func25 rfl Tryz.call25 (Nat.le_of_ble_eq_true rfl) (g := 1) ?_
  conv => whnf
  repeat' ((first | refine RegP.enter ?_ | refine DrawP.range (by kernel_rfl) ?_ | refine BuildP.frz ⟨rfl, ?_⟩ | refine BoxP.row ?_ | refine And.intro (Nat.succ_pos _) ?_ | refine call_same (size_ok g) rfl ?_ | fail); conv => whnf)
  refine br (fun hb => ?_) (fun hb => ?_)
  · have h : ¬ g.sz ≤ 65536 := by
      intro h; unfold sizeM at hb; rw [if_pos h] at hb; simp at hb; omega
    try rw [hb]
    conv => whnf
    repeat' ((first | refine RegP.enter ?_ | refine DrawP.range (by kernel_rfl) ?_ | refine BuildP.frz ⟨rfl, ?_⟩ | refine BoxP.row ?_ | refine And.intro (Nat.succ_pos _) ?_ | fail); conv => whnf)
    refine Ent.of_check ?_ rfl
    conv => whnf
    (iterate 3 ((all_goals try (conv => whnf)); (repeat' first | exact ⟨⟩ | refine And.intro ?_ ?_ | rfl | exact fun _ h => h | exact .inl rfl | exact none_some | exact .inr in4 | fail)))
    unfold rightM; rw [if_neg h]
  · have h : g.sz ≤ 65536 := by
      unfold sizeM at hb; split at hb
      · assumption
      · simp at hb
    try rw [hb]
    conv => whnf
    repeat' ((first | refine RegP.enter ?_ | refine DrawP.range (by kernel_rfl) ?_ | refine BuildP.frz ⟨rfl, ?_⟩ | refine BoxP.row ?_ | refine And.intro (Nat.succ_pos _) ?_ | refine call_same (check_ok g 1 (by decide)) rfl ?_ | fail); conv => whnf)
    refine Ent.of_check ?_ rfl
    conv => whnf
    (iterate 3 ((all_goals try (conv => whnf)); (repeat' first | exact ⟨⟩ | refine And.intro ?_ ?_ | rfl | exact fun _ h => h | exact .inl rfl | exact none_some | exact .inr in4 | fail)))
    unfold rightM; rw [if_pos h]
theorem first_ne {s : ByteArray} (h : (!decide (s = ⟨#[]⟩)) = true) : 0 < s.size := by
  rcases Nat.eq_zero_or_pos s.size with h0 | h0
  · have : s = ⟨#[]⟩ := by
      obtain ⟨a⟩ := s
      congr
      exact Array.eq_empty_of_size_eq_zero h0
    rw [this] at h; simp [dT, dF] at h
  · exact h0
set_option maxHeartbeats 4000000 in
theorem part_ok (s : ByteArray) : PSpec cxA 149 [.str s] (.ret (.bool (partM s))) := by
  refine PSpec.of_WC cxA_ok Tryz.func149 rfl Tryz.call149 (Nat.le_of_ble_eq_true rfl) (g := 1) ?_
  conv => whnf
  repeat' first | (refine RegP.enter ?_; conv => whnf) | (refine DrawP.range (by kernel_rfl) ?_; conv => whnf) | (refine BuildP.frz ⟨rfl, ?_⟩; conv => whnf) | (refine BoxP.row ?_; conv => whnf) | (refine And.intro Nat.zero_lt_one ?_; conv => whnf) | (refine And.intro (Nat.succ_pos _) ?_; conv => whnf) | (refine call_same (valid_ok _) rfl ?_; conv => whnf) | (refine call_same (indexByte_ok _ 0) rfl ?_; conv => whnf) | (refine br (fun hb => ?_) (fun hb => ?_) <;> (try rw [hb]) <;> (conv => whnf)) | fail
  case' refine_1.refine_1 => refine And.intro (first_ne (by assumption)) ?_; conv => whnf
  repeat' first | (refine RegP.enter ?_; conv => whnf) | (refine DrawP.range (by kernel_rfl) ?_; conv => whnf) | (refine BuildP.frz ⟨rfl, ?_⟩; conv => whnf) | (refine BoxP.row ?_; conv => whnf) | (refine And.intro Nat.zero_lt_one ?_; conv => whnf) | (refine And.intro (Nat.succ_pos _) ?_; conv => whnf) | (refine call_same (valid_ok _) rfl ?_; conv => whnf) | (refine call_same (indexByte_ok _ 0) rfl ?_; conv => whnf) | (refine br (fun hb => ?_) (fun hb => ?_) <;> (try rw [hb]) <;> (conv => whnf)) | fail
  all_goals (refine Ent.of_check ?_ rfl)
  all_goals (conv => whnf)
  (iterate 3 ((all_goals try (conv => whnf)); (repeat' first | exact ⟨⟩ | refine And.intro ?_ ?_ | rfl | exact fun _ h => h | exact .inl rfl | exact none_some | exact .inr in4 | fail)))
  all_goals (try simp only [Bool.not_eq_true', Bool.not_eq_false', dT, dF] at *)
  all_goals (try simp_all [dT, dF, partM])
  all_goals (try (intros; omega))
theorem split1_ok (s : ByteArray) : PSpec cxA 148 [.str s] (.ret (.bool (!partM s))) := by
  refine PSpec.of_WC cxA_ok Tryz.func148 rfl Tryz.call148 (Nat.le_of_ble_eq_true rfl) (g := 1) ?_
  conv => whnf
  repeat' ((first | refine RegP.enter ?_ | refine DrawP.range (by kernel_rfl) ?_ | refine BuildP.frz ⟨rfl, ?_⟩ | refine BoxP.row ?_ | refine And.intro (Nat.succ_pos _) ?_ | refine call_same (part_ok s) rfl ?_ | fail); conv => whnf)
  refine Ent.of_check ?_ rfl
  conv => whnf
  (iterate 3 ((all_goals try (conv => whnf)); (repeat' first | exact ⟨⟩ | refine And.intro ?_ ?_ | rfl | exact fun _ h => h | exact .inl rfl | exact none_some | exact .inr in4 | fail)))
def idxI {α : Type} (p : α → Bool) (l : List α) : Int := match l.findIdx? p with | some i => (i : Int) | none => -1
theorem idxI_some {α : Type} [Inhabited α] {p : α → Bool} {l : List α} {i : Nat} (h : i < l.length) (h1 : p (l.getD i default) = true) (h2 : ∀ j, j < i → p (l.getD j default) = false) : idxI p l = i := by
  unfold idxI
  have : l.findIdx? p = some i := by
    rw [List.findIdx?_eq_some_iff_getElem]
    refine ⟨h, by simpa [h] using h1, fun j hj => ?_⟩
    have := h2 j hj
    have hjl : j < l.length := by omega
    simpa [hjl] using this
  rw [this]
theorem idxI_none {α : Type} [Inhabited α] {p : α → Bool} {l : List α} (h2 : ∀ j, j < l.length → p (l.getD j default) = false) : idxI p l = -1 := by
  unfold idxI
  have : l.findIdx? p = none := by
    rw [List.findIdx?_eq_none_iff]
    intro x hx
    obtain ⟨j, hj, rfl⟩ := List.getElem_of_mem hx
    have := h2 j hj
    simpa [hj] using this
  rw [this]
theorem idxI_any {α : Type} (p : α → Bool) (l : List α) : decide (idxI p l ≥ 0) = l.any p := by
  unfold idxI
  cases h : l.findIdx? p with
  | none =>
    rw [List.findIdx?_eq_none_iff] at h
    simp
    exact h
  | some i =>
    rw [List.findIdx?_eq_some_iff_getElem] at h
    obtain ⟨hi, h1, _⟩ := h
    simp
    exact ⟨l[i], List.getElem_mem hi, h1⟩
theorem wrapI {x : Int} (h1 : -9223372036854775808 ≤ x) (h2 : x < 9223372036854775808) : IntKind.i64.wrap x = x := wrap64 h1 h2
/-- slices.IndexFunc over texts, of a function that only computes. -/
theorem indexFuncS_ok (l : List ByteArray) (f : FuncId) (a b : List AV) (ha : idfL a = true) (hb : idfL b = true) (p : ByteArray → Bool) (hp : ∀ s, s ∈ l → PSpec cxA f (a ++ [.str s] ++ b) (.ret (.bool (p s)))) :
    PSpec cxA 211 [.lz (.gs l), .clo (.func f) a b] (.ret (.int (idxI p l))) := by
  generalize hr : idxI p l = r
  refine PSpec.of_WC cxA_ok Tryz.func211 rfl Tryz.call211 (Nat.le_of_ble_eq_true rfl) (g := 1) ?_
  conv => whnf
  repeat' ((first | refine RegP.enter ?_ | refine DrawP.range (by kernel_rfl) ?_ | refine BuildP.frz ⟨rfl, ?_⟩ | refine BoxP.row ?_ | refine And.intro (Nat.succ_pos _) ?_ | fail); conv => whnf)
  refine ⟨2, {i : Nat // i ≤ l.length ∧ ∀ j, j < i → p (l.getD j default) = false}, fun i => ([(0, .lz (.gs l)), (1, .clo (.func f) a b), (7, .int l.length), (8, .int i.1)], []), fun i => l.length - i.1, ⟨⟨0, Nat.zero_le _, fun _ h => absurd h (Nat.not_lt_zero _)⟩, Sub.of_check [] ?_ (by repeat' first | exact Gen0.emp | exact Gen0.ofH rfl | refine Gen0.put ?_ (by decide) | refine Gen0.put0 ?_ ⟨_, rfl⟩)⟩, fun ⟨i, hi, hia⟩ => ?_⟩
  · conv => whnf
    (iterate 3 ((all_goals try (conv => whnf)); (repeat' first | exact ⟨⟩ | refine And.intro ?_ ?_ | rfl | exact fun _ h => h | exact .inl rfl | exact none_some | exact .inr in4 | fail)))
    all_goals first | exact leL_refl _ ha | exact leL_refl _ hb
  conv => whnf
  refine RegP.go fun hf => ?_
  conv => whnf
  refine br (fun hl => ?_) (fun hl => ?_)
  rotate_left
  · have hge : i = l.length := by
      have : ¬ i < l.length := by simpa using hl
      omega
    try rw [hl]
    conv => whnf
    repeat' ((first | refine RegP.enter ?_ | refine DrawP.range (by kernel_rfl) ?_ | refine BuildP.frz ⟨rfl, ?_⟩ | refine BoxP.row ?_ | refine And.intro (Nat.succ_pos _) ?_ | fail); conv => whnf)
    refine Ent.of_check ?_ rfl
    conv => whnf
    (iterate 3 ((all_goals try (conv => whnf)); (repeat' first | exact ⟨⟩ | refine And.intro ?_ ?_ | rfl | exact fun _ h => h | exact .inl rfl | exact none_some | exact .inr in4 | fail)))
    rw [← hr, idxI_none (by rw [← hge]; exact hia)]
  have hlt : i < l.length := by simpa using hl
  have hR := le_of_mul (k := 15) (hf.lz 0 _ _ _ _ _ _ rfl rfl)
  have hmem : l.getD i default ∈ l := by simp [hlt]
  try rw [hl]
  conv => whnf
  repeat' ((first | refine RegP.enter ?_ | refine DrawP.range (by kernel_rfl) ?_ | refine BuildP.frz ⟨rfl, ?_⟩ | refine BoxP.row ?_ | refine And.intro (Nat.succ_pos _) ?_ | fail); conv => whnf)
  refine And.intro (hlt) ?_
  conv => whnf
  refine And.intro (hlt) ?_
  conv => whnf
  refine call_same (hp _ hmem) (by rw [idfL_app, idfL_app, ha, hb]; rfl) ?_
  conv => whnf
  refine br (fun hx => ?_) (fun hx => ?_)
  · try rw [hx]
    conv => whnf
    repeat' ((first | refine RegP.enter ?_ | refine DrawP.range (by kernel_rfl) ?_ | refine BuildP.frz ⟨rfl, ?_⟩ | refine BoxP.row ?_ | refine And.intro (Nat.succ_pos _) ?_ | fail); conv => whnf)
    refine Ent.of_check ?_ rfl
    conv => whnf
    (iterate 3 ((all_goals try (conv => whnf)); (repeat' first | exact ⟨⟩ | refine And.intro ?_ ?_ | rfl | exact fun _ h => h | exact .inl rfl | exact none_some | exact .inr in4 | fail)))
    rw [← hr, idxI_some hlt hx hia]
  · try rw [hx]
    conv => whnf
    repeat' ((first | refine RegP.enter ?_ | refine DrawP.range (by kernel_rfl) ?_ | refine BuildP.frz ⟨rfl, ?_⟩ | refine BoxP.row ?_ | refine And.intro (Nat.succ_pos _) ?_ | fail); conv => whnf)
    refine ⟨⟨i + 1, hlt, fun j hj => (Nat.lt_or_eq_of_le (Nat.le_of_lt_succ hj)).elim (hia j) (fun e => e ▸ hx)⟩, (by show l.length - (i + 1) < l.length - i; omega), Sub.of_check [] ?_ (by repeat' first | exact Gen0.emp | exact Gen0.ofH rfl | refine Gen0.put ?_ (by decide) | refine Gen0.put0 ?_ ⟨_, rfl⟩)⟩
    conv => whnf
    (iterate 3 ((all_goals try (conv => whnf)); (repeat' first | exact ⟨⟩ | refine And.intro ?_ ?_ | rfl | exact fun _ h => h | exact .inl rfl | exact none_some | exact .inr in4 | fail)))
    all_goals first | exact leL_refl _ ha | exact leL_refl _ hb | exact wrap_succ hlt hR
/-- The same of slices.ContainsFunc. -/
theorem containsFuncS_ok (l : List ByteArray) (f : FuncId) (a b : List AV) (ha : idfL a = true) (hb : idfL b = true) (p : ByteArray → Bool) (hp : ∀ s, s ∈ l → PSpec cxA f (a ++ [.str s] ++ b) (.ret (.bool (p s)))) :
    PSpec cxA 147 [.lz (.gs l), .clo (.func f) a b] (.ret (.bool (l.any p))) := by
  refine PSpec.of_WC cxA_ok Tryz.func147 rfl Tryz.call147 (Nat.le_of_ble_eq_true rfl) (g := 1) ?_
  conv => whnf
  repeat' ((first | refine RegP.enter ?_ | refine DrawP.range (by kernel_rfl) ?_ | refine BuildP.frz ⟨rfl, ?_⟩ | refine BoxP.row ?_ | refine And.intro (Nat.succ_pos _) ?_ | fail); conv => whnf)
  refine call_same (indexFuncS_ok l f a b ha hb p hp) (by simp only [idfL] at ha hb; simp [idfL, idf, idf.idfL, ha, hb]) ?_
  conv => whnf
  repeat' ((first | refine RegP.enter ?_ | refine DrawP.range (by kernel_rfl) ?_ | refine BuildP.frz ⟨rfl, ?_⟩ | refine BoxP.row ?_ | refine And.intro (Nat.succ_pos _) ?_ | fail); conv => whnf)
  refine Ent.of_check ?_ rfl
  conv => whnf
  (iterate 3 ((all_goals try (conv => whnf)); (repeat' first | exact ⟨⟩ | refine And.intro ?_ ?_ | rfl | exact fun _ h => h | exact .inl rfl | exact none_some | exact .inr in4 | fail)))
  exact idxI_any p l
theorem psplit_ok (s : ByteArray) (hs : s.size < 4294967281) : PSpec cxA 75 [.str s] (.ret (.tup (match splitM s with | some l => [.lz (.gs l), .int 0] | none => [.nil, .int 40]))) := by
  generalize hr : splitM s = r
  refine PSpec.of_WC cxA_ok Tryz.func75 rfl Tryz.call75 (Nat.le_of_ble_eq_true rfl) (g := 1) ?_
  conv => whnf
  repeat' ((first | refine RegP.enter ?_ | refine DrawP.range (by kernel_rfl) ?_ | refine BuildP.frz ⟨rfl, ?_⟩ | refine BoxP.row ?_ | refine And.intro (Nat.succ_pos _) ?_ | refine call_same (count_ok s 46) rfl ?_ | fail); conv => whnf)
  unfold splitM at hr
  refine br (fun hb => ?_) (fun hb => ?_)
  · have : ¬ Lib.countByte s.data.toList 46 < 10 := by simp at hb; omega
    rw [decide_eq_false this] at hr
    subst hr
    try rw [hb]
    conv => whnf
    repeat' ((first | refine RegP.enter ?_ | refine DrawP.range (by kernel_rfl) ?_ | refine BuildP.frz ⟨rfl, ?_⟩ | refine BoxP.row ?_ | refine And.intro (Nat.succ_pos _) ?_ | fail); conv => whnf)
    refine Ent.of_check ?_ rfl
    conv => whnf
    (iterate 3 ((all_goals try (conv => whnf)); (repeat' first | exact ⟨⟩ | refine And.intro ?_ ?_ | rfl | exact fun _ h => h | exact .inl rfl | exact none_some | exact .inr in4 | fail)))
  have : Lib.countByte s.data.toList 46 < 10 := by simp at hb; omega
  rw [decide_eq_true this] at hr
  try rw [hb]
  conv => whnf
  repeat' ((first | refine RegP.enter ?_ | refine DrawP.range (by kernel_rfl) ?_ | refine BuildP.frz ⟨rfl, ?_⟩ | refine BoxP.row ?_ | refine And.intro (Nat.succ_pos _) ?_ | refine call_same (split_ok s hs) rfl ?_ | fail); conv => whnf)
  refine call_same (containsFuncS_ok _ 148 [] [] rfl rfl (fun s => !partM s) fun s _ => split1_ok s) rfl ?_
  conv => whnf
  have hx2 : (Lib.splitB ⟨#[46]⟩ 0 (Lib.countB s ⟨#[46]⟩) s).all partM = !((Lib.splitB ⟨#[46]⟩ 0 (Lib.countB s ⟨#[46]⟩) s).any fun s => !partM s) := by
    rw [List.not_any_eq_all_not]; simp
  refine br (fun hx => ?_) (fun hx => ?_)
  · rw [hx] at hx2
    simp only [hx2] at hr
    subst hr
    try rw [hx]
    conv => whnf
    repeat' ((first | refine RegP.enter ?_ | refine DrawP.range (by kernel_rfl) ?_ | refine BuildP.frz ⟨rfl, ?_⟩ | refine BoxP.row ?_ | refine And.intro (Nat.succ_pos _) ?_ | fail); conv => whnf)
    refine Ent.of_check ?_ rfl
    conv => whnf
    (iterate 3 ((all_goals try (conv => whnf)); (repeat' first | exact ⟨⟩ | refine And.intro ?_ ?_ | rfl | exact fun _ h => h | exact .inl rfl | exact none_some | exact .inr in4 | fail)))
  · rw [hx] at hx2
    simp only [hx2] at hr
    subst hr
    try rw [hx]
    conv => whnf
    repeat' ((first | refine RegP.enter ?_ | refine DrawP.range (by kernel_rfl) ?_ | refine BuildP.frz ⟨rfl, ?_⟩ | refine BoxP.row ?_ | refine And.intro (Nat.succ_pos _) ?_ | fail); conv => whnf)
    refine Ent.of_check ?_ rfl
    conv => whnf
    (iterate 3 ((all_goals try (conv => whnf)); (repeat' first | exact ⟨⟩ | refine And.intro ?_ ?_ | rfl | exact fun _ h => h | exact .inl rfl | exact none_some | exact .inr in4 | fail)))
end Go.Eng
namespace Go.Eng
open Go.Proofs
set_option maxRecDepth 10000
theorem idf_val : ∀ n : Nd, idf n.val = true
  | .lit _ => rfl
  | .con _ => rfl
  | .fld _ => rfl
  | .var _ _ => rfl
  | .lst _ => rfl
  | .docm _ => rfl
  | .loop op nm over first body => by
    cases first with
    | none =>
      show idf.idfL [.lit (.string op), .lit (.string nm), .ifc over.ty over.val, .lit .nilIface, .ifc body.ty body.val] = true
      simp [idf, idf.idfL, idf_val over, idf_val body]
    | some f =>
      show idf.idfL [.lit (.string op), .lit (.string nm), .ifc over.ty over.val, .ifc f.ty f.val, .ifc body.ty body.val] = true
      simp [idf, idf.idfL, idf_val over, idf_val body, idf_val f]
  | .call _ _ => rfl
theorem idf_av (n : Nd) : idf n.av = true := idf_val n
def memP (s : ByteArray) (l : List ByteArray) : Int := idxI (fun m => decide (s = m)) l
theorem memP_mem (s : ByteArray) (l : List ByteArray) : decide (memP s l ≥ 0) = memB s l := by
  unfold memP; rw [idxI_any]
  induction l with
  | nil => rfl
  | cons a l ih => simp only [List.any_cons, memB, ih]
/-- slices.Index over names. -/
theorem indexN_ok (l : List ByteArray) (s : ByteArray) : PSpec cxA 177 [.lz (.gs l), .str s] (.ret (.int (memP s l))) := by
  generalize hr : memP s l = r
  refine PSpec.of_WC cxA_ok Tryz.func177 rfl Tryz.call177 (Nat.le_of_ble_eq_true rfl) (g := 1) ?_
  conv => whnf
  repeat' ((first | refine RegP.enter ?_ | refine DrawP.range (by kernel_rfl) ?_ | refine BuildP.frz ⟨rfl, ?_⟩ | refine BoxP.row ?_ | refine And.intro (Nat.succ_pos _) ?_ | fail); conv => whnf)
  refine ⟨2, {i : Nat // i ≤ l.length ∧ ∀ j, j < i → decide (s = l.getD j default) = false}, fun i => ([(0, .lz (.gs l)), (1, .str s), (7, .int l.length), (8, .int i.1)], []), fun i => l.length - i.1, ⟨⟨0, Nat.zero_le _, fun _ h => absurd h (Nat.not_lt_zero _)⟩, Sub.of_check [] ?_ (by repeat' first | exact Gen0.emp | exact Gen0.ofH rfl | refine Gen0.put ?_ (by decide) | refine Gen0.put0 ?_ ⟨_, rfl⟩)⟩, fun ⟨i, hi, hia⟩ => ?_⟩
  · conv => whnf
    (iterate 3 ((all_goals try (conv => whnf)); (repeat' first | exact ⟨⟩ | refine And.intro ?_ ?_ | rfl | exact fun _ h => h | exact .inl rfl | exact none_some | exact .inr in4 | fail)))
  conv => whnf
  refine RegP.go fun hf => ?_
  conv => whnf
  refine br (fun hl => ?_) (fun hl => ?_)
  rotate_left
  · have hge : i = l.length := by
      have : ¬ i < l.length := by simpa using hl
      omega
    try rw [hl]
    conv => whnf
    repeat' ((first | refine RegP.enter ?_ | refine DrawP.range (by kernel_rfl) ?_ | refine BuildP.frz ⟨rfl, ?_⟩ | refine BoxP.row ?_ | refine And.intro (Nat.succ_pos _) ?_ | fail); conv => whnf)
    refine Ent.of_check ?_ rfl
    conv => whnf
    (iterate 3 ((all_goals try (conv => whnf)); (repeat' first | exact ⟨⟩ | refine And.intro ?_ ?_ | rfl | exact fun _ h => h | exact .inl rfl | exact none_some | exact .inr in4 | fail)))
    rw [← hr, memP, idxI_none (by rw [← hge]; exact hia)]
  have hlt : i < l.length := by simpa using hl
  have hR := le_of_mul (k := 15) (hf.lz 0 _ _ _ _ _ _ rfl rfl)
  try rw [hl]
  conv => whnf
  repeat' ((first | refine RegP.enter ?_ | refine DrawP.range (by kernel_rfl) ?_ | refine BuildP.frz ⟨rfl, ?_⟩ | refine BoxP.row ?_ | refine And.intro (Nat.succ_pos _) ?_ | fail); conv => whnf)
  refine And.intro (hlt) ?_
  conv => whnf
  refine And.intro (hlt) ?_
  conv => whnf
  refine br (fun hx => ?_) (fun hx => ?_)
  · try rw [hx]
    conv => whnf
    repeat' ((first | refine RegP.enter ?_ | refine DrawP.range (by kernel_rfl) ?_ | refine BuildP.frz ⟨rfl, ?_⟩ | refine BoxP.row ?_ | refine And.intro (Nat.succ_pos _) ?_ | fail); conv => whnf)
    refine Ent.of_check ?_ rfl
    conv => whnf
    (iterate 3 ((all_goals try (conv => whnf)); (repeat' first | exact ⟨⟩ | refine And.intro ?_ ?_ | rfl | exact fun _ h => h | exact .inl rfl | exact none_some | exact .inr in4 | fail)))
    rw [← hr, memP, idxI_some hlt hx hia]
  · try rw [hx]
    conv => whnf
    repeat' ((first | refine RegP.enter ?_ | refine DrawP.range (by kernel_rfl) ?_ | refine BuildP.frz ⟨rfl, ?_⟩ | refine BoxP.row ?_ | refine And.intro (Nat.succ_pos _) ?_ | fail); conv => whnf)
    refine ⟨⟨i + 1, hlt, fun j hj => (Nat.lt_or_eq_of_le (Nat.le_of_lt_succ hj)).elim (hia j) (fun e => e ▸ hx)⟩, (by show l.length - (i + 1) < l.length - i; omega), Sub.of_check [] ?_ (by repeat' first | exact Gen0.emp | exact Gen0.ofH rfl | refine Gen0.put ?_ (by decide) | refine Gen0.put0 ?_ ⟨_, rfl⟩)⟩
    conv => whnf
    (iterate 3 ((all_goals try (conv => whnf)); (repeat' first | exact ⟨⟩ | refine And.intro ?_ ?_ | rfl | exact fun _ h => h | exact .inl rfl | exact none_some | exact .inr in4 | fail)))
    all_goals exact wrap_succ hlt hR
theorem containsN_ok (l : List ByteArray) (s : ByteArray) : PSpec cxA 116 [.lz (.gs l), .str s] (.ret (.bool (memB s l))) := by
  refine PSpec.of_WC cxA_ok Tryz.func116 rfl Tryz.call116 (Nat.le_of_ble_eq_true rfl) (g := 1) ?_
  conv => whnf
  repeat' ((first | refine RegP.enter ?_ | refine DrawP.range (by kernel_rfl) ?_ | refine BuildP.frz ⟨rfl, ?_⟩ | refine BoxP.row ?_ | refine And.intro (Nat.succ_pos _) ?_ | refine call_same (indexN_ok l s) rfl ?_ | fail); conv => whnf)
  refine Ent.of_check ?_ rfl
  conv => whnf
  (iterate 3 ((all_goals try (conv => whnf)); (repeat' first | exact ⟨⟩ | refine And.intro ?_ ?_ | rfl | exact fun _ h => h | exact .inl rfl | exact none_some | exact .inr in4 | fail)))
  exact memP_mem s l
def ParseOk (p : List ByteArray → GV → P3 Nd) : Prop := ∀ names g, goodM g = true →
  (p names g = .no → PSpec cxA 63 [.lz (.gs names), .agg g.cells] (.ret (.lit .nilIface))) ∧ (∀ x, p names g = .yes x → PSpec cxA 63 [.lz (.gs names), .agg g.cells] (.ret x.av))
def retAll : P3 (List Nd) → Out
  | .yes xs => .ret (.tup [.lz (.gn xs), .bool true])
  | _ => .ret (.tup [.nil, .bool false])
theorem allG_drop {p : List ByteArray → GV → P3 Nd} {names : List ByteArray} {l : List GV} {i : Nat} (h : i < l.length) : allG p names (l.drop i) = (match p names (l.getD i default) with | .unk => .unk | .no => .no | .yes a => (allG p names (l.drop (i + 1))).map (a :: ·)) := by
  have e : l.getD i default = l[i] := by simp [h]
  rw [List.drop_eq_getElem_cons h, allG, e]; rfl
theorem P3.map_map {α β γ : Type} (f : α → β) (g : β → γ) (x : P3 α) : (x.map f).map g = x.map (g ∘ f) := by cases x <;> rfl
set_option maxHeartbeats 1000000 in
theorem all_ok {p : List ByteArray → GV → P3 Nd} (hp : ParseOk p) (names : List ByteArray) (l : List GV) (hg : goodL l = true) (hu : allF p names l ≠ .unk) : PSpec cxA 117 [.lz (.gs names), .lz (.gl l)] (retAll (allF p names l)) := by
  generalize hr : allF p names l = r at hu
  refine PSpec.of_WC cxA_ok Tryz.func117 rfl Tryz.call117 (Nat.le_of_ble_eq_true rfl) (g := 1) ?_
  conv => whnf
  repeat' ((first | refine RegP.enter ?_ | refine DrawP.range (by kernel_rfl) ?_ | refine BuildP.frz ⟨rfl, ?_⟩ | refine BoxP.row ?_ | refine And.intro (Nat.succ_pos _) ?_ | fail); conv => whnf)
  unfold allF at hr
  refine br (fun hb => ?_) (fun hb => ?_)
  · have : 100 < l.length := by simp at hb; omega
    simp only [decide_eq_true this] at hr
    subst hr
    try rw [hb]
    conv => whnf
    repeat' ((first | refine RegP.enter ?_ | refine DrawP.range (by kernel_rfl) ?_ | refine BuildP.frz ⟨rfl, ?_⟩ | refine BoxP.row ?_ | refine And.intro (Nat.succ_pos _) ?_ | fail); conv => whnf)
    refine Ent.of_check ?_ rfl
    conv => whnf
    (iterate 3 ((all_goals try (conv => whnf)); (repeat' first | exact ⟨⟩ | refine And.intro ?_ ?_ | rfl | exact fun _ h => h | exact .inl rfl | exact none_some | exact .inr in4 | fail)))
  have : ¬ 100 < l.length := by simp at hb; omega
  simp only [decide_eq_false this] at hr
  replace hr : allG p names l = r := hr
  try rw [hb]
  conv => whnf
  repeat' ((first | refine RegP.enter ?_ | refine DrawP.range (by kernel_rfl) ?_ | refine BuildP.frz ⟨rfl, ?_⟩ | refine BoxP.row ?_ | refine And.intro (Nat.succ_pos _) ?_ | fail); conv => whnf)
  refine ⟨2, {q : List Nd // q.length ≤ l.length ∧ r = (allG p names (l.drop q.length)).map (q ++ ·)}, fun i => ([(0, .lz (.gs names)), (6, .row (2,0,0) 0 i.1.length none), (13, .lz (.gl l)), (14, .int l.length), (15, .int i.1.length)], [((2,0,0), .cells 1 16 (i.1.map fun x => [x.av]))]), fun i => l.length - i.1.length, ⟨⟨[], Nat.zero_le _, by rw [← hr]; show allG p names l = (allG p names l).map _; cases allG p names l <;> rfl⟩, Sub.of_check [((2,0,0), .new 1 16)] ?_ (by repeat' first | exact Gen0.emp | exact Gen0.ofH rfl | refine Gen0.put ?_ (by decide) | refine Gen0.put0 ?_ ⟨_, rfl⟩)⟩, fun ⟨acc, hi, hia⟩ => ?_⟩
  · conv => whnf
    (iterate 3 ((all_goals try (conv => whnf)); (repeat' first | exact ⟨⟩ | refine And.intro ?_ ?_ | rfl | exact fun _ h => h | exact .inl rfl | exact none_some | exact .inr in4 | fail)))
  conv => whnf
  refine RegP.go fun hf => ?_
  conv => whnf
  refine br (fun hl => ?_) (fun hl => ?_)
  rotate_left
  · have hge : acc.length = l.length := by
      have : ¬ acc.length < l.length := by simpa using hl
      omega
    rw [hge, List.drop_length] at hia
    have hra : r = .yes acc := by rw [hia]; show P3.yes (acc ++ []) = _; rw [List.append_nil]
    subst hra
    try rw [hl]
    conv => whnf
    repeat' ((first | refine RegP.enter ?_ | refine DrawP.range (by kernel_rfl) ?_ | refine BuildP.frz ⟨rfl, ?_⟩ | refine BoxP.row ?_ | refine And.intro (Nat.succ_pos _) ?_ | fail); conv => whnf)
    refine Ent.of_check ?_ rfl
    conv => whnf
    (iterate 3 ((all_goals try (conv => whnf)); (repeat' first | exact ⟨⟩ | refine And.intro ?_ ?_ | rfl | exact fun _ h => h | exact .inl rfl | exact none_some | exact .inr in4 | fail)))
    all_goals first | exact len_map _ _ | exact frz_all (f := fun x : Nd => [x.av]) (fun x => by simp [idfL, idf.idfL, idf_av]) acc
  have hlt : acc.length < l.length := by simpa using hl
  have hRl := hf.lz 13 _ _ _ _ _ _ rfl rfl
  have hR := le_of_mul (k := 79) hRl
  have hpp := hp names (l.getD acc.length default) (goodL_get hlt hg)
  rw [allG_drop hlt] at hia
  try rw [hl]
  conv => whnf
  repeat' ((first | refine RegP.enter ?_ | refine DrawP.range (by kernel_rfl) ?_ | refine BuildP.frz ⟨rfl, ?_⟩ | refine BoxP.row ?_ | refine And.intro (Nat.succ_pos _) ?_ | fail); conv => whnf)
  refine And.intro (hlt) ?_
  conv => whnf
  refine And.intro (hlt) ?_
  conv => whnf
  repeat' ((first | refine RegP.enter ?_ | refine DrawP.range (by kernel_rfl) ?_ | refine BuildP.frz ⟨rfl, ?_⟩ | refine BoxP.row ?_ | refine And.intro (Nat.succ_pos _) ?_ | fail); conv => whnf)
  cases hx : p names (l.getD acc.length default) with
  | unk => rw [hx] at hia; exact absurd hia hu
  | no =>
    rw [hx] at hia
    obtain rfl : r = .no := hia
    refine call_same (hpp.1 hx) rfl ?_
    conv => whnf
    repeat' ((first | refine RegP.enter ?_ | refine DrawP.range (by kernel_rfl) ?_ | refine BuildP.frz ⟨rfl, ?_⟩ | refine BoxP.row ?_ | refine And.intro (Nat.succ_pos _) ?_ | fail); conv => whnf)
    refine Ent.of_check ?_ rfl
    conv => whnf
    (iterate 3 ((all_goals try (conv => whnf)); (repeat' first | exact ⟨⟩ | refine And.intro ?_ ?_ | rfl | exact fun _ h => h | exact .inl rfl | exact none_some | exact .inr in4 | fail)))
  | yes x =>
    rw [hx] at hia
    refine call_same (hpp.2 x hx) rfl ?_
    conv => whnf
    refine RegP.enter ?_
    conv => whnf
    refine RegP.enter ?_
    conv => whnf
    refine BuildP.row ?_
    conv => whnf
    refine AppP.grow ⟨⟨by simp, ?_⟩, ?_⟩
    · exact Nat.le_trans (Nat.mul_le_mul hlt (by decide)) hRl
    conv => whnf
    repeat' ((first | refine RegP.enter ?_ | refine DrawP.range (by kernel_rfl) ?_ | refine BuildP.frz ⟨rfl, ?_⟩ | refine BoxP.row ?_ | refine And.intro (Nat.succ_pos _) ?_ | fail); conv => whnf)
    refine ⟨⟨acc ++ [x], by simp; omega, by rw [hia, List.length_append]; show P3.map _ (P3.map _ _) = _; rw [P3.map_map]; congr 1; funext y; simp⟩, (by show l.length - (acc ++ [x]).length < l.length - acc.length; simp; omega), Sub.of_check [((2,0,0), .old false (2,27,0))] ?_ (by repeat' first | exact Gen0.emp | exact Gen0.ofH rfl | refine Gen0.put ?_ (by decide) | refine Gen0.put0 ?_ ⟨_, rfl⟩)⟩
    conv => whnf
    (iterate 3 ((all_goals try (conv => whnf)); (repeat' first | exact ⟨⟩ | refine And.intro ?_ ?_ | rfl | exact fun _ h => h | exact .inl rfl | exact none_some | exact .inr in4 | fail)))
    all_goals first | (show acc.length + 1 = (acc ++ [x]).length; simp) | exact (wrap_succ hlt hR).trans (by simp) | exact snoc_map _ _ _ | (intro e he; obtain ⟨y, _, rfl⟩ := List.mem_map.1 he; simp [idfL, idf.idfL, idf_av])
end Go.Eng
namespace Go.Eng
open Go.Proofs
set_option maxRecDepth 10000
def retDoc : P3 (List (ByteArray × Nd)) → Out
  | .yes xs => .ret (Nd.docm xs).av
  | _ => .ret (.lit .nilIface)
theorem docG_drop {p : List ByteArray → GV → P3 Nd} {names : List ByteArray} {l : List (ByteArray × GV)} {i : Nat} (h : i < l.length) : docG p names (l.drop i) = (match p names (l.getD i default).2 with | .unk => .unk | .no => .no | .yes a => match decide (first0 (l.getD i default).1 = 36) with | true => .no | false => (docG p names (l.drop (i + 1))).map (((l.getD i default).1, a) :: ·)) := by
  have e : l.getD i default = l[i] := by simp [h]
  rw [List.drop_eq_getElem_cons h, e]
  generalize l[i] = f
  obtain ⟨m, g⟩ := f
  rw [docG]; rfl
theorem first_eq {s : ByteArray} : ((((s.data.getD 0 0).toNat : Nat) : Int) == 36) = decide (first0 s = 36) := by
  unfold first0
  rw [Bool.eq_iff_iff]; simp; omega
theorem idfL_p (y : ByteArray × Nd) : idfL (pcells y) = true := by simp [pcells, idfL, idf.idfL, idf, idf_av]
set_option maxHeartbeats 1000000 in
theorem document_ok {p : List ByteArray → GV → P3 Nd} (hp : ParseOk p) (names : List ByteArray) (l : List (ByteArray × GV)) (hg : goodD l = true) (hu : docF p names l ≠ .unk) : PSpec cxA 119 [.lz (.gs names), .lz (.gd l)] (retDoc (docF p names l)) := by
  generalize hr : docF p names l = r at hu
  refine PSpec.of_WC cxA_ok Tryz.func119 rfl Tryz.call119 (Nat.le_of_ble_eq_true rfl) (g := 1) ?_
  conv => whnf
  repeat' ((first | refine RegP.enter ?_ | refine DrawP.range (by kernel_rfl) ?_ | refine BuildP.frz ⟨rfl, ?_⟩ | refine BoxP.row ?_ | refine And.intro (Nat.succ_pos _) ?_ | fail); conv => whnf)
  unfold docF at hr
  refine br (fun hb => ?_) (fun hb => ?_)
  · have : 100 < l.length := by simp at hb; omega
    simp only [decide_eq_true this] at hr
    subst hr
    try rw [hb]
    conv => whnf
    repeat' ((first | refine RegP.enter ?_ | refine DrawP.range (by kernel_rfl) ?_ | refine BuildP.frz ⟨rfl, ?_⟩ | refine BoxP.row ?_ | refine And.intro (Nat.succ_pos _) ?_ | fail); conv => whnf)
    refine Ent.of_check ?_ rfl
    conv => whnf
    (iterate 3 ((all_goals try (conv => whnf)); (repeat' first | exact ⟨⟩ | refine And.intro ?_ ?_ | rfl | exact fun _ h => h | exact .inl rfl | exact none_some | exact .inr in4 | fail)))
  have : ¬ 100 < l.length := by simp at hb; omega
  simp only [decide_eq_false this] at hr
  replace hr : docG p names l = r := hr
  try rw [hb]
  conv => whnf
  repeat' ((first | refine RegP.enter ?_ | refine DrawP.range (by kernel_rfl) ?_ | refine BuildP.frz ⟨rfl, ?_⟩ | refine BoxP.row ?_ | refine And.intro (Nat.succ_pos _) ?_ | fail); conv => whnf)
  refine ⟨2, {q : List (ByteArray × Nd) // q.length ≤ l.length ∧ r = (docG p names (l.drop q.length)).map (q ++ ·)}, fun i => ([(0, .lz (.gs names)), (5, .row (2,0,0) 0 i.1.length none), (12, .lz (.gd l)), (13, .int l.length), (14, .int i.1.length)], [((2,0,0), .cells 2 32 (i.1.map pcells))]), fun i => l.length - i.1.length, ⟨⟨[], Nat.zero_le _, by rw [← hr]; show docG p names l = (docG p names l).map _; cases docG p names l <;> rfl⟩, Sub.of_check [((2,0,0), .new 2 32)] ?_ (by repeat' first | exact Gen0.emp | exact Gen0.ofH rfl | refine Gen0.put ?_ (by decide) | refine Gen0.put0 ?_ ⟨_, rfl⟩)⟩, fun ⟨acc, hi, hia⟩ => ?_⟩
  · conv => whnf
    (iterate 3 ((all_goals try (conv => whnf)); (repeat' first | exact ⟨⟩ | refine And.intro ?_ ?_ | rfl | exact fun _ h => h | exact .inl rfl | exact none_some | exact .inr in4 | fail)))
  conv => whnf
  refine RegP.go fun hf => ?_
  conv => whnf
  refine br (fun hl => ?_) (fun hl => ?_)
  rotate_left
  · have hge : acc.length = l.length := by
      have : ¬ acc.length < l.length := by simpa using hl
      omega
    rw [hge, List.drop_length] at hia
    have hra : r = .yes acc := by rw [hia]; show P3.yes (acc ++ []) = _; rw [List.append_nil]
    subst hra
    try rw [hl]
    conv => whnf
    repeat' ((first | refine RegP.enter ?_ | refine DrawP.range (by kernel_rfl) ?_ | refine BuildP.frz ⟨rfl, ?_⟩ | refine BoxP.row ?_ | refine And.intro (Nat.succ_pos _) ?_ | fail); conv => whnf)
    refine Ent.of_check ?_ rfl
    conv => whnf
    (iterate 3 ((all_goals try (conv => whnf)); (repeat' first | exact ⟨⟩ | refine And.intro ?_ ?_ | rfl | exact fun _ h => h | exact .inl rfl | exact none_some | exact .inr in4 | fail)))
    all_goals first | exact len_map _ _ | exact frz_all idfL_p acc
  have hlt : acc.length < l.length := by simpa using hl
  have hRl := hf.lz 12 _ _ _ _ _ _ rfl rfl
  have hR := le_of_mul (k := 95) hRl
  have hpos := goodD_get hlt hg
  have hpp := hp names (l.getD acc.length default).2 hpos.2
  rw [docG_drop hlt] at hia
  try rw [hl]
  conv => whnf
  repeat' ((first | refine RegP.enter ?_ | refine DrawP.range (by kernel_rfl) ?_ | refine BuildP.frz ⟨rfl, ?_⟩ | refine BoxP.row ?_ | refine And.intro (Nat.succ_pos _) ?_ | fail); conv => whnf)
  refine And.intro (hlt) ?_
  conv => whnf
  refine And.intro (hlt) ?_
  conv => whnf
  repeat' ((first | refine RegP.enter ?_ | refine DrawP.range (by kernel_rfl) ?_ | refine BuildP.frz ⟨rfl, ?_⟩ | refine BoxP.row ?_ | refine And.intro (Nat.succ_pos _) ?_ | fail); conv => whnf)
  cases hx : p names (l.getD acc.length default).2 with
  | unk => rw [hx] at hia; exact absurd hia hu
  | no =>
    rw [hx] at hia
    obtain rfl : r = .no := hia
    refine call_same (hpp.1 hx) rfl ?_
    conv => whnf
    repeat' ((first | refine RegP.enter ?_ | refine DrawP.range (by kernel_rfl) ?_ | refine BuildP.frz ⟨rfl, ?_⟩ | refine BoxP.row ?_ | refine And.intro (Nat.succ_pos _) ?_ | fail); conv => whnf)
    refine Ent.of_check ?_ rfl
    conv => whnf
    (iterate 3 ((all_goals try (conv => whnf)); (repeat' first | exact ⟨⟩ | refine And.intro ?_ ?_ | rfl | exact fun _ h => h | exact .inl rfl | exact none_some | exact .inr in4 | fail)))
  | yes x =>
    rw [hx] at hia
    refine call_same (hpp.2 x hx) rfl ?_
    conv => whnf
    refine RegP.enter ?_
    conv => whnf
    refine And.intro (hpos.1) ?_
    conv => whnf
    rw [first_eq]
    cases hd : decide (first0 (l.getD acc.length default).1 = 36)
    rotate_left
    · rw [hd] at hia
      obtain rfl : r = .no := hia
      conv => whnf
      repeat' ((first | refine RegP.enter ?_ | refine DrawP.range (by kernel_rfl) ?_ | refine BuildP.frz ⟨rfl, ?_⟩ | refine BoxP.row ?_ | refine And.intro (Nat.succ_pos _) ?_ | fail); conv => whnf)
      refine Ent.of_check ?_ rfl
      conv => whnf
      (iterate 3 ((all_goals try (conv => whnf)); (repeat' first | exact ⟨⟩ | refine And.intro ?_ ?_ | rfl | exact fun _ h => h | exact .inl rfl | exact none_some | exact .inr in4 | fail)))
    rw [hd] at hia
    conv => whnf
    refine RegP.enter ?_
    conv => whnf
    refine BuildP.row ?_
    conv => whnf
    refine AppP.grow ⟨⟨by simp, ?_⟩, ?_⟩
    · exact Nat.le_trans (Nat.mul_le_mul hlt (by decide)) hRl
    conv => whnf
    repeat' ((first | refine RegP.enter ?_ | refine DrawP.range (by kernel_rfl) ?_ | refine BuildP.frz ⟨rfl, ?_⟩ | refine BoxP.row ?_ | refine And.intro (Nat.succ_pos _) ?_ | fail); conv => whnf)
    refine ⟨⟨acc ++ [((l.getD acc.length default).1, x)], by simp; omega, by rw [hia, List.length_append]; show P3.map _ (P3.map _ _) = _; rw [P3.map_map]; congr 1; funext y; simp⟩, (by show l.length - (acc ++ [_]).length < l.length - acc.length; simp; omega), Sub.of_check [((2,0,0), .old false (2,36,0))] ?_ (by repeat' first | exact Gen0.emp | exact Gen0.ofH rfl | refine Gen0.put ?_ (by decide) | refine Gen0.put0 ?_ ⟨_, rfl⟩)⟩
    conv => whnf
    (iterate 3 ((all_goals try (conv => whnf)); (repeat' first | exact ⟨⟩ | refine And.intro ?_ ?_ | rfl | exact fun _ h => h | exact .inl rfl | exact none_some | exact .inr in4 | fail)))
    all_goals first | (show acc.length + 1 = (acc ++ [_]).length; simp) | exact (wrap_succ hlt hR).trans (by simp) | exact snoc_map pcells acc ((l.getD acc.length default).1, x) | (intro e he; obtain ⟨y, _, rfl⟩ := List.mem_map.1 he; exact idfL_p y)
/-- What arity answers. -/
def arOut (op : ByteArray) : List AV := match arityM op with | some (a, b) => [.int a, .int b, .bool true] | none => [.int 0, .int 0, .bool false]
set_option maxHeartbeats 8000000 in
theorem arity_ok (op : ByteArray) : PSpec cxA 179 [.str op] (.ret (.tup (arOut op))) := by
  generalize hr : arOut op = r
  refine PSpec.of_WC cxA_ok Tryz.func179 rfl Tryz.call179 (Nat.le_of_ble_eq_true rfl) (g := 1) ?_
  conv => whnf
  repeat' first | (refine RegP.enter ?_; conv => whnf) | (refine DrawP.range (by kernel_rfl) ?_; conv => whnf) | (refine BuildP.frz ⟨rfl, ?_⟩; conv => whnf) | (refine BoxP.row ?_; conv => whnf) | (refine And.intro Nat.zero_lt_one ?_; conv => whnf) | (refine And.intro (Nat.succ_pos _) ?_; conv => whnf) | (refine br (fun hb => ?_) (fun hb => ?_) <;> (try rw [hb]) <;> (conv => whnf)) | fail
  all_goals (simp only [arOut, arityM, memB, *, Bool.true_or, Bool.or_true, Bool.false_or, Bool.or_false] at hr)
  all_goals subst hr
  all_goals (refine Ent.of_check ?_ rfl)
  all_goals (conv => whnf)
  (iterate 3 ((all_goals try (conv => whnf)); (repeat' first | exact ⟨⟩ | refine And.intro ?_ ?_ | rfl | exact fun _ h => h | exact .inl rfl | exact none_some | exact .inr in4 | fail)))
end Go.Eng

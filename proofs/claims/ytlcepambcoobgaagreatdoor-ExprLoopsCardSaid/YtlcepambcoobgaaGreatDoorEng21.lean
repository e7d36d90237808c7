/- Eng21: an engine for the program's code, and walks of its functions (Wt Wu). -/
import Derived.Test.YtlcepambcoobgaaGreatDoorEng20
namespace Go.Eng
open Go.Proofs
set_option maxRecDepth 10000
theorem meth_evFn (x : Nd) : cxA.meth x.ty "coffret/expr.eval" = some (evFn x) := by cases x <;> rfl
def LoOk (O : Ops) : Prop := ∀ op l, match O.lo op l with
  | .unk => True
  | .some g => PSpec cxA 393 [.str op, .lz (.gl l)] (.ret (.tup [.agg g.cells, .bool true]))
  | .none => PSpec cxA 393 [.str op, .lz (.gl l)] (.ret (.tup [.agg gZero.cells, .bool false]))
def StOk (O : Ops) : Prop := ∀ op l doc k, StepOk k → RsSpec 395 [.ptr (0,0,0) 0 0, .str op, .lz (.gl l)] doc k (O.st op l k) ∧ RsBd k (O.st op l k)
def aftP (O : Ops) (op : ByteArray) (l : List GV) (k : Int) : Rs GV := match O.lo op l with
  | .unk => .unk
  | .some g => withinM g k
  | .none => match l.any nothingM with
    | true => .ok gNull k
    | false => match O.st op l k with
      | .unk => .unk
      | .fail e k => .fail e k
      | .ok g k => withinM g k
def bindQ (O : Ops) (op : ByteArray) (q : List GV) : Rs (List GV) → Rs GV
  | .unk => .unk
  | .fail e k => .fail e k
  | .ok l k => aftP O op (q ++ l) k
theorem plainP_eq (O : Ops) (ev : Nd → GV → List (ByteArray × GV) → Int → Rs GV) (op : ByteArray) (args : List Nd) (doc : GV) (s : List (ByteArray × GV)) (k : Int) : plainP O ev op args doc s k = bindQ O op [] (rowP ev doc s args k) := by
  unfold plainP
  cases rowP ev doc s args k <;> rfl
theorem rowP_drop {ev : Nd → GV → List (ByteArray × GV) → Int → Rs GV} {doc : GV} {s : List (ByteArray × GV)} {l : List Nd} {i : Nat} {k : Int} (h : i < l.length) : rowP ev doc s (l.drop i) k = (match stepF ev (l.getD i default) doc s k with
    | .unk => .unk
    | .fail e k => .fail e k
    | .ok g k => match rowP ev doc s (l.drop (i + 1)) k with
      | .unk => .unk
      | .fail e k => .fail e k
      | .ok r k => .ok (g :: r) k) := by
  have e : l.getD i default = l[i] := by simp [h]
  rw [List.drop_eq_getElem_cons h, e, rowP]; rfl
theorem bindQ_cons (O : Ops) (op : ByteArray) (q : List GV) (g : GV) (r : Rs (List GV)) : bindQ O op q (match r with | .unk => .unk | .fail e k => .fail e k | .ok r k => .ok (g :: r) k) = bindQ O op (q ++ [g]) r := by
  cases r <;> simp [bindQ]
set_option maxHeartbeats 4000000 in
theorem plain_ok {O : Ops} (hlo : LoOk O) (hst : StOk O) {ev : Nd → GV → List (ByteArray × GV) → Int → Rs GV} (hev : EvOk ev) (op : ByteArray) (args : List Nd) (doc : GV) (s : List (ByteArray × GV)) (k : Int) (hk : StepOk k)
    (t1 : decide (op = oLiteral) = false) (t2 : decide (op = oAnd) = false) (t3 : decide (op = oOr) = false) (t4 : decide (op = oCond) = false) (t5 : decide (op = oIfNull) = false) :
    RsSpec 388 [.agg [.str op, .lz (.gn args)], .ptr (0,0,0) 0 0, scAV s] doc k (plainP O ev op args doc s k) := by
  rw [plainP_eq]
  generalize hr : bindQ O op [] (rowP ev doc s args k) = r
  refine RsSpec.of fun hu => ?_
  refine MSpec.of_WC cxA_ok Tryz.func388 rfl Tryz.call388 (Nat.le_of_ble_eq_true rfl) (g := 1) ?_
  conv => whnf
  refine RegP.enter ?_
  conv => whnf
  refine BoxP.frz ⟨rfl, ?_⟩
  conv => whnf
  repeat' ((first | refine RegP.enter ?_ | refine DrawP.range (by kernel_rfl) ?_ | refine BuildP.frz ⟨rfl, ?_⟩ | refine BoxP.row ?_ | refine And.intro (Nat.succ_pos _) ?_ | fail); conv => whnf)
  rw [t1]
  conv => whnf
  repeat' ((first | refine RegP.enter ?_ | refine DrawP.range (by kernel_rfl) ?_ | refine BuildP.frz ⟨rfl, ?_⟩ | refine BoxP.row ?_ | refine And.intro (Nat.succ_pos _) ?_ | fail); conv => whnf)
  rw [t2]
  conv => whnf
  repeat' ((first | refine RegP.enter ?_ | refine DrawP.range (by kernel_rfl) ?_ | refine BuildP.frz ⟨rfl, ?_⟩ | refine BoxP.row ?_ | refine And.intro (Nat.succ_pos _) ?_ | fail); conv => whnf)
  rw [t3]
  conv => whnf
  repeat' ((first | refine RegP.enter ?_ | refine DrawP.range (by kernel_rfl) ?_ | refine BuildP.frz ⟨rfl, ?_⟩ | refine BoxP.row ?_ | refine And.intro (Nat.succ_pos _) ?_ | fail); conv => whnf)
  rw [t4]
  conv => whnf
  repeat' ((first | refine RegP.enter ?_ | refine DrawP.range (by kernel_rfl) ?_ | refine BuildP.frz ⟨rfl, ?_⟩ | refine BoxP.row ?_ | refine And.intro (Nat.succ_pos _) ?_ | fail); conv => whnf)
  rw [t5]
  conv => whnf
  repeat' ((first | refine RegP.enter ?_ | refine DrawP.range (by kernel_rfl) ?_ | refine BuildP.frz ⟨rfl, ?_⟩ | refine BoxP.row ?_ | refine And.intro (Nat.succ_pos _) ?_ | fail); conv => whnf)
  refine ⟨2, {q : List GV × Int // q.1.length ≤ args.length ∧ (q.1.length : Int) ≤ q.2 ∧ StepOk q.2 ∧ bindQ O op q.1 (rowP ev doc s (args.drop q.1.length) q.2) = r}, fun i => ([(1, .ptr (0,0,0) 0 0), (2, scAV s), (3, .fptr 2 1 (fun _ => [.str op, .lz (.gn args)]) 0 0), (6, .ptr (1,6,0) 0 0), (11, .row (2,0,0) 0 i.1.1.length none), (97, .lz (.gn args)), (98, .int args.length), (99, .int i.1.1.length)], [((0,0,0), runRow doc i.1.2), ((1,6,0), .cells 5 80 [[.int 0, .int 0, .str ⟨#[]⟩, .nil, .nil]]), ((2,0,0), .cells 5 80 (i.1.1.map GV.cells))]), fun i => args.length - i.1.1.length, ⟨⟨([], k), Nat.zero_le _, hk.1, hk, hr⟩, Sub.of_check [((0,0,0), .old true (0,0,0)), ((1,6,0), .old true (1,6,0)), ((2,0,0), .new 5 80)] ?_ (by repeat' first | exact Gen0.emp | exact Gen0.ofH rfl | refine Gen0.put ?_ (by decide) | refine Gen0.put0 ?_ ⟨_, rfl⟩)⟩, fun ⟨⟨q, kk⟩, hq, hqk, hkk, hia⟩ => ?_⟩
  · conv => whnf
    (iterate 3 ((all_goals try (conv => whnf)); (repeat' first | exact ⟨⟩ | refine And.intro ?_ ?_ | rfl | exact fun _ h => h | exact .inl rfl | exact none_some | exact .inr in4 | fail)))
    all_goals first | exact leK_refl _ (idf_sc _) | exact idfL_map idfL_cells _ | trace_state
  conv => whnf
  refine RegP.go fun hf => ?_
  conv => whnf
  refine br (fun hl => ?_) (fun hl => ?_)
  · have hlt : q.length < args.length := by simpa using hl
    have hRl := hf.lz 97 _ _ _ _ _ _ rfl rfl
    have hRr := hf.row (2,0,0) _ _ _ rfl
    try rw [hl]
    conv => whnf
    repeat' ((first | refine RegP.enter ?_ | refine DrawP.range (by kernel_rfl) ?_ | refine BuildP.frz ⟨rfl, ?_⟩ | refine BoxP.row ?_ | refine And.intro (Nat.succ_pos _) ?_ | fail); conv => whnf)
    refine And.intro (hlt) ?_
    conv => whnf
    refine And.intro (hlt) ?_
    conv => whnf
    repeat' ((first | refine RegP.enter ?_ | refine DrawP.range (by kernel_rfl) ?_ | refine BuildP.frz ⟨rfl, ?_⟩ | refine BoxP.row ?_ | refine And.intro (Nat.succ_pos _) ?_ | fail); conv => whnf)
    rw [rowP_drop hlt] at hia
    obtain ⟨hs, hb⟩ := step_ok hev (args.getD q.length default) doc s kk hkk
    replace hia : bindQ O op q (match stepF ev (args.getD q.length default) doc s kk with | .unk => .unk | .fail e k => .fail e k | .ok g k => match rowP ev doc s (args.drop (q.length + 1)) k with | .unk => .unk | .fail e k => .fail e k | .ok r k => .ok (g :: r) k) = r := hia
    generalize stepF ev (args.getD q.length default) doc s kk = rs at *
    cases rs with
    | unk => exact absurd hia.symm hu
    | fail e k' =>
      replace hia : .fail e k' = r := hia
      subst hia
      refine call_mm [((0,0,0), .old true (0,0,0))] 2 107 (hs) ?_ ?_ ?_
      · conv => whnf
        (iterate 3 ((all_goals try (conv => whnf)); (repeat' first | exact ⟨⟩ | refine And.intro ?_ ?_ | rfl | exact fun _ h => h | exact .inl rfl | exact none_some | exact .inr in4 | fail)))
        all_goals first | exact leK_refl _ (idf_sc _) | exact leK_refl _ (idf_av _)
      · intro _; conv => whnf
        (iterate 3 ((all_goals try (conv => whnf)); (repeat' first | exact ⟨⟩ | refine And.intro ?_ ?_ | rfl | exact fun _ h => h | exact .inl rfl | exact none_some | exact .inr in4 | fail)))
      intro x; conv => whnf
      refine ⟨(), _, rfl, Sub.of_check [((0,0,0), .old true (0,0,0))] ?_ (by repeat' first | exact Gen0.emp | exact Gen0.ofH rfl | refine Gen0.put ?_ (by decide) | refine Gen0.put0 ?_ ⟨_, rfl⟩)⟩
      conv => whnf
      (iterate 3 ((all_goals try (conv => whnf)); (repeat' first | exact ⟨⟩ | refine And.intro ?_ ?_ | rfl | exact fun _ h => h | exact .inl rfl | exact none_some | exact .inr in4 | fail)))
    | ok g k' =>
      rw [bindQ_cons] at hia
      refine call_mm [((0,0,0), .old true (0,0,0))] 2 107 (hs) ?_ ?_ ?_
      · conv => whnf
        (iterate 3 ((all_goals try (conv => whnf)); (repeat' first | exact ⟨⟩ | refine And.intro ?_ ?_ | rfl | exact fun _ h => h | exact .inl rfl | exact none_some | exact .inr in4 | fail)))
        all_goals first | exact leK_refl _ (idf_sc _) | exact leK_refl _ (idf_av _)
      · intro _; conv => whnf
        (iterate 3 ((all_goals try (conv => whnf)); (repeat' first | exact ⟨⟩ | refine And.intro ?_ ?_ | rfl | exact fun _ h => h | exact .inl rfl | exact none_some | exact .inr in4 | fail)))
      intro x; conv => whnf
      refine BuildP.row ?_
      conv => whnf
      have hq2 : q.length + 1 ≤ 20000 := by
        have h1 := hb.1
        have h2 := hb.2.2
        have h3 : (q.length : Int) ≤ kk := hqk
        omega
      refine AppP.grow ⟨⟨by simp, by simp only [R]; omega⟩, ?_⟩
      conv => whnf
      repeat' ((first | refine RegP.enter ?_ | refine DrawP.range (by kernel_rfl) ?_ | refine BuildP.frz ⟨rfl, ?_⟩ | refine BoxP.row ?_ | refine And.intro (Nat.succ_pos _) ?_ | fail); conv => whnf)
      refine ⟨⟨(q ++ [g], k'), by simp; omega, by have h1 := hb.1; have h3 : (q.length : Int) ≤ kk := hqk; simp; omega, hb.2, by simpa using hia⟩, (by simp; omega), Sub.of_check [((0,0,0), .old true (0,0,0)), ((1,6,0), .old true (1,6,0)), ((2,0,0), .old false (2,109,0))] ?_ (by repeat' first | exact Gen0.emp | exact Gen0.ofH rfl | refine Gen0.put ?_ (by decide) | refine Gen0.put0 ?_ ⟨_, rfl⟩)⟩
      conv => whnf
      (iterate 3 ((all_goals try (conv => whnf)); (repeat' first | exact ⟨⟩ | refine And.intro ?_ ?_ | rfl | exact fun _ h => h | exact .inl rfl | exact none_some | exact .inr in4 | fail)))
      all_goals first | exact leK_refl _ (idf_sc _) | (show IntKind.i64.wrap ((q.length : Int) + 1) = (((q ++ [g]).length : Nat) : Int); rw [List.length_append]; exact wrap_succ hlt (le_of_mul (k := 15) hRl)) | exact snoc_map GV.cells _ _ | exact idfL_map idfL_cells _ | (show q.length + 1 = (q ++ [g]).length; simp; done) | trace_state
  have hge : q.length = args.length := by
    have : ¬ q.length < args.length := by simpa using hl
    have : q.length ≤ args.length := hq
    omega
  have hia : aftP O op q kk = r := by
    rw [← hia]
    show _ = bindQ O op q (rowP ev doc s (args.drop q.length) kk)
    rw [hge, List.drop_length]
    simp [rowP, bindQ]
  try rw [hl]
  conv => whnf
  refine RegP.view ⟨[(1, .ptr (0,0,0) 0 0), (2, scAV s), (3, .fptr 2 1 (fun _ => [.str op, .lz (.gn args)]) 0 0), (6, .ptr (1,6,0) 0 0), (11, .lz (.gl q))], [((0,0,0), runRow doc kk), ((1,6,0), .cells 5 80 [[.int 0, .int 0, .str ⟨#[]⟩, .nil, .nil]])], Sub.of_check [((0,0,0), .old true (0,0,0)), ((1,6,0), .old true (1,6,0))] ?_ (by repeat' first | exact Gen0.emp | exact Gen0.ofH rfl | refine Gen0.put ?_ (by decide) | refine Gen0.put0 ?_ ⟨_, rfl⟩), ?_⟩
  · conv => whnf
    (iterate 3 ((all_goals try (conv => whnf)); (repeat' first | exact ⟨⟩ | refine And.intro ?_ ?_ | rfl | exact fun _ h => h | exact .inl rfl | exact none_some | exact .inr in4 | fail)))
    all_goals first | exact leK_refl _ (idf_sc _) | exact len_map _ _ | exact frz_all idfL_cells _ | trace_state
  refine fun hf => ?_
  conv => whnf
  have hl0 := hlo op q
  unfold aftP at hia
  have hin : (q.any nothingM) = q.any nothingM := rfl
  generalize O.lo op q = lo at *
  cases lo with
  | unk => exact absurd hia.symm hu
  | some g =>
    replace hia : withinM g kk = r := hia
    repeat' ((first | refine RegP.enter ?_ | refine DrawP.range (by kernel_rfl) ?_ | refine BuildP.frz ⟨rfl, ?_⟩ | refine BoxP.row ?_ | refine And.intro (Nat.succ_pos _) ?_ | refine call_same (hl0) rfl ?_ | fail); conv => whnf)
    unfold withinM at hia
    by_cases hw : 65536 < g.sz
    · rw [decide_eq_true hw] at hia
      subst hia
      refine call_mm [] 1 120 (within_no g hw) ?_ ?_ ?_
      · conv => whnf
        (iterate 3 ((all_goals try (conv => whnf)); (repeat' first | exact ⟨⟩ | refine And.intro ?_ ?_ | rfl | exact fun _ h => h | exact .inl rfl | exact none_some | exact .inr in4 | fail)))
      · intro _; conv => whnf
        (iterate 3 ((all_goals try (conv => whnf)); (repeat' first | exact ⟨⟩ | refine And.intro ?_ ?_ | rfl | exact fun _ h => h | exact .inl rfl | exact none_some | exact .inr in4 | fail)))
      intro x; conv => whnf
      refine ⟨(), _, rfl, Sub.of_check [((0,0,0), .old true (0,0,0))] ?_ (by repeat' first | exact Gen0.emp | exact Gen0.ofH rfl | refine Gen0.put ?_ (by decide) | refine Gen0.put0 ?_ ⟨_, rfl⟩)⟩
      conv => whnf
      (iterate 3 ((all_goals try (conv => whnf)); (repeat' first | exact ⟨⟩ | refine And.intro ?_ ?_ | rfl | exact fun _ h => h | exact .inl rfl | exact none_some | exact .inr in4 | fail)))
    · rw [decide_eq_false hw] at hia
      subst hia
      refine call_mm [] 1 120 (within_yes g hw) ?_ ?_ ?_
      · conv => whnf
        (iterate 3 ((all_goals try (conv => whnf)); (repeat' first | exact ⟨⟩ | refine And.intro ?_ ?_ | rfl | exact fun _ h => h | exact .inl rfl | exact none_some | exact .inr in4 | fail)))
      · intro _; conv => whnf
        (iterate 3 ((all_goals try (conv => whnf)); (repeat' first | exact ⟨⟩ | refine And.intro ?_ ?_ | rfl | exact fun _ h => h | exact .inl rfl | exact none_some | exact .inr in4 | fail)))
      intro x; conv => whnf
      repeat' ((first | refine RegP.enter ?_ | refine DrawP.range (by kernel_rfl) ?_ | refine BuildP.frz ⟨rfl, ?_⟩ | refine BoxP.row ?_ | refine And.intro (Nat.succ_pos _) ?_ | fail); conv => whnf)
      refine ⟨(), _, rfl, Sub.of_check [((0,0,0), .old true (0,0,0))] ?_ (by repeat' first | exact Gen0.emp | exact Gen0.ofH rfl | refine Gen0.put ?_ (by decide) | refine Gen0.put0 ?_ ⟨_, rfl⟩)⟩
      conv => whnf
      (iterate 3 ((all_goals try (conv => whnf)); (repeat' first | exact ⟨⟩ | refine And.intro ?_ ?_ | rfl | exact fun _ h => h | exact .inl rfl | exact none_some | exact .inr in4 | fail)))
  | none =>
    repeat' ((first | refine RegP.enter ?_ | refine DrawP.range (by kernel_rfl) ?_ | refine BuildP.frz ⟨rfl, ?_⟩ | refine BoxP.row ?_ | refine And.intro (Nat.succ_pos _) ?_ | refine call_same (hl0) rfl ?_ | refine call_same (anyNothing_ok q) rfl ?_ | fail); conv => whnf)
    cases hn : q.any nothingM
    rotate_left
    · rw [hn] at hia
      replace hia : .ok gNull kk = r := hia
      subst hia
      conv => whnf
      repeat' ((first | refine RegP.enter ?_ | refine DrawP.range (by kernel_rfl) ?_ | refine BuildP.frz ⟨rfl, ?_⟩ | refine BoxP.row ?_ | refine And.intro (Nat.succ_pos _) ?_ | fail); conv => whnf)
      refine ⟨(), _, rfl, Sub.of_check [((0,0,0), .old true (0,0,0))] ?_ (by repeat' first | exact Gen0.emp | exact Gen0.ofH rfl | refine Gen0.put ?_ (by decide) | refine Gen0.put0 ?_ ⟨_, rfl⟩)⟩
      conv => whnf
      (iterate 3 ((all_goals try (conv => whnf)); (repeat' first | exact ⟨⟩ | refine And.intro ?_ ?_ | rfl | exact fun _ h => h | exact .inl rfl | exact none_some | exact .inr in4 | fail)))
    rw [hn] at hia
    conv => whnf
    repeat' ((first | refine RegP.enter ?_ | refine DrawP.range (by kernel_rfl) ?_ | refine BuildP.frz ⟨rfl, ?_⟩ | refine BoxP.row ?_ | refine And.intro (Nat.succ_pos _) ?_ | fail); conv => whnf)
    obtain ⟨hs, hb⟩ := hst op q doc kk hkk
    replace hia : (match O.st op q kk with | .unk => .unk | .fail e k => .fail e k | .ok g k => withinM g k) = r := hia
    generalize O.st op q kk = rs at *
    cases rs with
    | unk => exact absurd hia.symm hu
    | fail e k' =>
      replace hia : .fail e k' = r := hia
      subst hia
      refine call_mm [((0,0,0), .old true (0,0,0))] 1 128 (hs) ?_ ?_ ?_
      · conv => whnf
        (iterate 3 ((all_goals try (conv => whnf)); (repeat' first | exact ⟨⟩ | refine And.intro ?_ ?_ | rfl | exact fun _ h => h | exact .inl rfl | exact none_some | exact .inr in4 | fail)))
      · intro _; conv => whnf
        (iterate 3 ((all_goals try (conv => whnf)); (repeat' first | exact ⟨⟩ | refine And.intro ?_ ?_ | rfl | exact fun _ h => h | exact .inl rfl | exact none_some | exact .inr in4 | fail)))
      intro x; conv => whnf
      refine ⟨(), _, rfl, Sub.of_check [((0,0,0), .old true (0,0,0))] ?_ (by repeat' first | exact Gen0.emp | exact Gen0.ofH rfl | refine Gen0.put ?_ (by decide) | refine Gen0.put0 ?_ ⟨_, rfl⟩)⟩
      conv => whnf
      (iterate 3 ((all_goals try (conv => whnf)); (repeat' first | exact ⟨⟩ | refine And.intro ?_ ?_ | rfl | exact fun _ h => h | exact .inl rfl | exact none_some | exact .inr in4 | fail)))
    | ok g k' =>
      replace hia : withinM g k' = r := hia
      refine call_mm [((0,0,0), .old true (0,0,0))] 1 128 (hs) ?_ ?_ ?_
      · conv => whnf
        (iterate 3 ((all_goals try (conv => whnf)); (repeat' first | exact ⟨⟩ | refine And.intro ?_ ?_ | rfl | exact fun _ h => h | exact .inl rfl | exact none_some | exact .inr in4 | fail)))
      · intro _; conv => whnf
        (iterate 3 ((all_goals try (conv => whnf)); (repeat' first | exact ⟨⟩ | refine And.intro ?_ ?_ | rfl | exact fun _ h => h | exact .inl rfl | exact none_some | exact .inr in4 | fail)))
      intro x; conv => whnf
      repeat' ((first | refine RegP.enter ?_ | refine DrawP.range (by kernel_rfl) ?_ | refine BuildP.frz ⟨rfl, ?_⟩ | refine BoxP.row ?_ | refine And.intro (Nat.succ_pos _) ?_ | fail); conv => whnf)
      unfold withinM at hia
      by_cases hw : 65536 < g.sz
      · rw [decide_eq_true hw] at hia
        subst hia
        refine call_mm [] 1 129 (within_no g hw) ?_ ?_ ?_
        · conv => whnf
          (iterate 3 ((all_goals try (conv => whnf)); (repeat' first | exact ⟨⟩ | refine And.intro ?_ ?_ | rfl | exact fun _ h => h | exact .inl rfl | exact none_some | exact .inr in4 | fail)))
        · intro _; conv => whnf
          (iterate 3 ((all_goals try (conv => whnf)); (repeat' first | exact ⟨⟩ | refine And.intro ?_ ?_ | rfl | exact fun _ h => h | exact .inl rfl | exact none_some | exact .inr in4 | fail)))
        intro x; conv => whnf
        refine ⟨(), _, rfl, Sub.of_check [((0,0,0), .old true (0,0,0))] ?_ (by repeat' first | exact Gen0.emp | exact Gen0.ofH rfl | refine Gen0.put ?_ (by decide) | refine Gen0.put0 ?_ ⟨_, rfl⟩)⟩
        conv => whnf
        (iterate 3 ((all_goals try (conv => whnf)); (repeat' first | exact ⟨⟩ | refine And.intro ?_ ?_ | rfl | exact fun _ h => h | exact .inl rfl | exact none_some | exact .inr in4 | fail)))
      · rw [decide_eq_false hw] at hia
        subst hia
        refine call_mm [] 1 129 (within_yes g hw) ?_ ?_ ?_
        · conv => whnf
          (iterate 3 ((all_goals try (conv => whnf)); (repeat' first | exact ⟨⟩ | refine And.intro ?_ ?_ | rfl | exact fun _ h => h | exact .inl rfl | exact none_some | exact .inr in4 | fail)))
        · intro _; conv => whnf
          (iterate 3 ((all_goals try (conv => whnf)); (repeat' first | exact ⟨⟩ | refine And.intro ?_ ?_ | rfl | exact fun _ h => h | exact .inl rfl | exact none_some | exact .inr in4 | fail)))
        intro x; conv => whnf
        repeat' ((first | refine RegP.enter ?_ | refine DrawP.range (by kernel_rfl) ?_ | refine BuildP.frz ⟨rfl, ?_⟩ | refine BoxP.row ?_ | refine And.intro (Nat.succ_pos _) ?_ | fail); conv => whnf)
        refine ⟨(), _, rfl, Sub.of_check [((0,0,0), .old true (0,0,0))] ?_ (by repeat' first | exact Gen0.emp | exact Gen0.ofH rfl | refine Gen0.put ?_ (by decide) | refine Gen0.put0 ?_ ⟨_, rfl⟩)⟩
        conv => whnf
        (iterate 3 ((all_goals try (conv => whnf)); (repeat' first | exact ⟨⟩ | refine And.intro ?_ ?_ | rfl | exact fun _ h => h | exact .inl rfl | exact none_some | exact .inr in4 | fail)))
end Go.Eng
namespace Go.Eng
open Go.Proofs
set_option maxRecDepth 10000
theorem quote_ok {ev : Nd → GV → List (ByteArray × GV) → Int → Rs GV} (hev : EvOk ev) (a : Nd) (l : List Nd) (doc : GV) (s : List (ByteArray × GV)) (k : Int) (hk : StepOk k) :
    RsSpec 388 [.agg [.str oLiteral, .lz (.gn (a :: l))], .ptr (0,0,0) 0 0, scAV s] doc k (ev a doc s k) := by
  have hs := (hev a doc s k hk).1
  generalize ev a doc s k = r at *
  refine RsSpec.of fun hu => ?_
  refine MSpec.of_WC cxA_ok Tryz.func388 rfl Tryz.call388 (Nat.le_of_ble_eq_true rfl) (g := 1) ?_
  conv => whnf
  refine RegP.enter ?_
  conv => whnf
  refine BoxP.frz ⟨rfl, ?_⟩
  conv => whnf
  repeat' ((first | refine RegP.enter ?_ | refine DrawP.range (by kernel_rfl) ?_ | refine BuildP.frz ⟨rfl, ?_⟩ | refine BoxP.row ?_ | refine And.intro (Nat.succ_pos _) ?_ | fail); conv => whnf)
  rw [meth_evFn]
  conv => whnf
  cases r with
  | unk => exact absurd rfl hu
  | fail e k' =>
    refine call_mm [((0,0,0), .old true (0,0,0))] 1 26 (hs) ?_ ?_ ?_
    · conv => whnf
      (iterate 3 ((all_goals try (conv => whnf)); (repeat' first | exact ⟨⟩ | refine And.intro ?_ ?_ | rfl | exact fun _ h => h | exact .inl rfl | exact none_some | exact .inr in4 | fail)))
      all_goals first | exact leK_refl _ (idf_sc _) | exact leK_refl _ (idf_val _)
    · intro _; conv => whnf
      (iterate 3 ((all_goals try (conv => whnf)); (repeat' first | exact ⟨⟩ | refine And.intro ?_ ?_ | rfl | exact fun _ h => h | exact .inl rfl | exact none_some | exact .inr in4 | fail)))
    intro x; conv => whnf
    refine ⟨(), _, rfl, Sub.of_check [((0,0,0), .old true (0,0,0))] ?_ (by repeat' first | exact Gen0.emp | exact Gen0.ofH rfl | refine Gen0.put ?_ (by decide) | refine Gen0.put0 ?_ ⟨_, rfl⟩)⟩
    conv => whnf
    (iterate 3 ((all_goals try (conv => whnf)); (repeat' first | exact ⟨⟩ | refine And.intro ?_ ?_ | rfl | exact fun _ h => h | exact .inl rfl | exact none_some | exact .inr in4 | fail)))
  | ok g k' =>
    refine call_mm [((0,0,0), .old true (0,0,0))] 1 26 (hs) ?_ ?_ ?_
    · conv => whnf
      (iterate 3 ((all_goals try (conv => whnf)); (repeat' first | exact ⟨⟩ | refine And.intro ?_ ?_ | rfl | exact fun _ h => h | exact .inl rfl | exact none_some | exact .inr in4 | fail)))
      all_goals first | exact leK_refl _ (idf_sc _) | exact leK_refl _ (idf_val _)
    · intro _; conv => whnf
      (iterate 3 ((all_goals try (conv => whnf)); (repeat' first | exact ⟨⟩ | refine And.intro ?_ ?_ | rfl | exact fun _ h => h | exact .inl rfl | exact none_some | exact .inr in4 | fail)))
    intro x; conv => whnf
    repeat' ((first | refine RegP.enter ?_ | refine DrawP.range (by kernel_rfl) ?_ | refine BuildP.frz ⟨rfl, ?_⟩ | refine BoxP.row ?_ | refine And.intro (Nat.succ_pos _) ?_ | fail); conv => whnf)
    refine ⟨(), _, rfl, Sub.of_check [((0,0,0), .old true (0,0,0))] ?_ (by repeat' first | exact Gen0.emp | exact Gen0.ofH rfl | refine Gen0.put ?_ (by decide) | refine Gen0.put0 ?_ ⟨_, rfl⟩)⟩
    conv => whnf
    (iterate 3 ((all_goals try (conv => whnf)); (repeat' first | exact ⟨⟩ | refine And.intro ?_ ?_ | rfl | exact fun _ h => h | exact .inl rfl | exact none_some | exact .inr in4 | fail)))
theorem cond_ok {ev : Nd → GV → List (ByteArray × GV) → Int → Rs GV} (hev : EvOk ev) (a b c : Nd) (doc : GV) (s : List (ByteArray × GV)) (k : Int) (hk : StepOk k) :
    RsSpec 388 [.agg [.str oCond, .lz (.gn [a, b, c])], .ptr (0,0,0) 0 0, scAV s] doc k (condP ev a b c doc s k) := by
  obtain ⟨hs, hb⟩ := step_ok hev a doc s k hk
  generalize hr : condP ev a b c doc s k = r
  unfold condP at hr
  refine RsSpec.of fun hu => ?_
  refine MSpec.of_WC cxA_ok Tryz.func388 rfl Tryz.call388 (Nat.le_of_ble_eq_true rfl) (g := 1) ?_
  conv => whnf
  refine RegP.enter ?_
  conv => whnf
  refine BoxP.frz ⟨rfl, ?_⟩
  conv => whnf
  repeat' ((first | refine RegP.enter ?_ | refine DrawP.range (by kernel_rfl) ?_ | refine BuildP.frz ⟨rfl, ?_⟩ | refine BoxP.row ?_ | refine And.intro (Nat.succ_pos _) ?_ | fail); conv => whnf)
  generalize stepF ev a doc s k = rs at *
  cases rs with
  | unk => exact absurd hr.symm hu
  | fail e k' =>
    replace hr : .fail e k' = r := hr
    subst hr
    refine call_mm [((0,0,0), .old true (0,0,0))] 1 63 (hs) ?_ ?_ ?_
    · conv => whnf
      (iterate 3 ((all_goals try (conv => whnf)); (repeat' first | exact ⟨⟩ | refine And.intro ?_ ?_ | rfl | exact fun _ h => h | exact .inl rfl | exact none_some | exact .inr in4 | fail)))
      all_goals first | exact leK_refl _ (idf_sc _) | exact leK_refl _ (idf_av _)
    · intro _; conv => whnf
      (iterate 3 ((all_goals try (conv => whnf)); (repeat' first | exact ⟨⟩ | refine And.intro ?_ ?_ | rfl | exact fun _ h => h | exact .inl rfl | exact none_some | exact .inr in4 | fail)))
    intro x; conv => whnf
    refine ⟨(), _, rfl, Sub.of_check [((0,0,0), .old true (0,0,0))] ?_ (by repeat' first | exact Gen0.emp | exact Gen0.ofH rfl | refine Gen0.put ?_ (by decide) | refine Gen0.put0 ?_ ⟨_, rfl⟩)⟩
    conv => whnf
    (iterate 3 ((all_goals try (conv => whnf)); (repeat' first | exact ⟨⟩ | refine And.intro ?_ ?_ | rfl | exact fun _ h => h | exact .inl rfl | exact none_some | exact .inr in4 | fail)))
  | ok g k' =>
    have hk' : StepOk k' := hb.2
    refine call_mm [((0,0,0), .old true (0,0,0))] 1 63 (hs) ?_ ?_ ?_
    · conv => whnf
      (iterate 3 ((all_goals try (conv => whnf)); (repeat' first | exact ⟨⟩ | refine And.intro ?_ ?_ | rfl | exact fun _ h => h | exact .inl rfl | exact none_some | exact .inr in4 | fail)))
      all_goals first | exact leK_refl _ (idf_sc _) | exact leK_refl _ (idf_av _)
    · intro _; conv => whnf
      (iterate 3 ((all_goals try (conv => whnf)); (repeat' first | exact ⟨⟩ | refine And.intro ?_ ?_ | rfl | exact fun _ h => h | exact .inl rfl | exact none_some | exact .inr in4 | fail)))
    intro x; conv => whnf
    repeat' ((first | refine RegP.enter ?_ | refine DrawP.range (by kernel_rfl) ?_ | refine BuildP.frz ⟨rfl, ?_⟩ | refine BoxP.row ?_ | refine And.intro (Nat.succ_pos _) ?_ | refine call_same (truth_ok g) rfl ?_ | fail); conv => whnf)
    cases ht : truthM g
    · obtain ⟨hs2, hb2⟩ := step_ok hev c doc s k' hk'
      replace hr : (match stepF ev (match truthM g with | true => b | false => c) doc s k' with | .unk => .unk | .fail e k => .fail e k | .ok g k => withinM (fullM g) k) = r := hr
      rw [ht] at hr
      replace hr : (match stepF ev c doc s k' with | .unk => .unk | .fail e k => .fail e k | .ok g k => withinM (fullM g) k) = r := hr
      conv => whnf
      repeat' ((first | refine RegP.enter ?_ | refine DrawP.range (by kernel_rfl) ?_ | refine BuildP.frz ⟨rfl, ?_⟩ | refine BoxP.row ?_ | refine And.intro (Nat.succ_pos _) ?_ | fail); conv => whnf)
      refine And.intro ((by decide : 2 < 3)) ?_
      conv => whnf
      refine And.intro ((by decide : 2 < 3)) ?_
      conv => whnf
      generalize stepF ev c doc s k' = rs2 at *
      cases rs2 with
      | unk => exact absurd hr.symm hu
      | fail e k2 =>
        replace hr : .fail e k2 = r := hr
        subst hr
        refine call_mm [((0,0,0), .old true (0,0,0))] 1 72 (hs2) ?_ ?_ ?_
        · conv => whnf
          (iterate 3 ((all_goals try (conv => whnf)); (repeat' first | exact ⟨⟩ | refine And.intro ?_ ?_ | rfl | exact fun _ h => h | exact .inl rfl | exact none_some | exact .inr in4 | fail)))
          all_goals first | exact leK_refl _ (idf_sc _) | exact leK_refl _ (idf_av _)
        · intro _; conv => whnf
          (iterate 3 ((all_goals try (conv => whnf)); (repeat' first | exact ⟨⟩ | refine And.intro ?_ ?_ | rfl | exact fun _ h => h | exact .inl rfl | exact none_some | exact .inr in4 | fail)))
        intro x; conv => whnf
        refine ⟨(), _, rfl, Sub.of_check [((0,0,0), .old true (0,0,0))] ?_ (by repeat' first | exact Gen0.emp | exact Gen0.ofH rfl | refine Gen0.put ?_ (by decide) | refine Gen0.put0 ?_ ⟨_, rfl⟩)⟩
        conv => whnf
        (iterate 3 ((all_goals try (conv => whnf)); (repeat' first | exact ⟨⟩ | refine And.intro ?_ ?_ | rfl | exact fun _ h => h | exact .inl rfl | exact none_some | exact .inr in4 | fail)))
      | ok g2 k2 =>
        replace hr : withinM (fullM g2) k2 = r := hr
        refine call_mm [((0,0,0), .old true (0,0,0))] 1 72 (hs2) ?_ ?_ ?_
        · conv => whnf
          (iterate 3 ((all_goals try (conv => whnf)); (repeat' first | exact ⟨⟩ | refine And.intro ?_ ?_ | rfl | exact fun _ h => h | exact .inl rfl | exact none_some | exact .inr in4 | fail)))
          all_goals first | exact leK_refl _ (idf_sc _) | exact leK_refl _ (idf_av _)
        · intro _; conv => whnf
          (iterate 3 ((all_goals try (conv => whnf)); (repeat' first | exact ⟨⟩ | refine And.intro ?_ ?_ | rfl | exact fun _ h => h | exact .inl rfl | exact none_some | exact .inr in4 | fail)))
        intro x; conv => whnf
        repeat' ((first | refine RegP.enter ?_ | refine DrawP.range (by kernel_rfl) ?_ | refine BuildP.frz ⟨rfl, ?_⟩ | refine BoxP.row ?_ | refine And.intro (Nat.succ_pos _) ?_ | refine call_same (full_ok g2) rfl ?_ | fail); conv => whnf)
        unfold withinM at hr
        by_cases hw : 65536 < (fullM g2).sz
        · rw [decide_eq_true hw] at hr
          subst hr
          refine call_mm [] 1 74 (within_no _ hw) ?_ ?_ ?_
          · conv => whnf
            (iterate 3 ((all_goals try (conv => whnf)); (repeat' first | exact ⟨⟩ | refine And.intro ?_ ?_ | rfl | exact fun _ h => h | exact .inl rfl | exact none_some | exact .inr in4 | fail)))
          · intro _; conv => whnf
            (iterate 3 ((all_goals try (conv => whnf)); (repeat' first | exact ⟨⟩ | refine And.intro ?_ ?_ | rfl | exact fun _ h => h | exact .inl rfl | exact none_some | exact .inr in4 | fail)))
          intro x; conv => whnf
          refine ⟨(), _, rfl, Sub.of_check [((0,0,0), .old true (0,0,0))] ?_ (by repeat' first | exact Gen0.emp | exact Gen0.ofH rfl | refine Gen0.put ?_ (by decide) | refine Gen0.put0 ?_ ⟨_, rfl⟩)⟩
          conv => whnf
          (iterate 3 ((all_goals try (conv => whnf)); (repeat' first | exact ⟨⟩ | refine And.intro ?_ ?_ | rfl | exact fun _ h => h | exact .inl rfl | exact none_some | exact .inr in4 | fail)))
        · rw [decide_eq_false hw] at hr
          subst hr
          refine call_mm [] 1 74 (within_yes _ hw) ?_ ?_ ?_
          · conv => whnf
            (iterate 3 ((all_goals try (conv => whnf)); (repeat' first | exact ⟨⟩ | refine And.intro ?_ ?_ | rfl | exact fun _ h => h | exact .inl rfl | exact none_some | exact .inr in4 | fail)))
          · intro _; conv => whnf
            (iterate 3 ((all_goals try (conv => whnf)); (repeat' first | exact ⟨⟩ | refine And.intro ?_ ?_ | rfl | exact fun _ h => h | exact .inl rfl | exact none_some | exact .inr in4 | fail)))
          intro x; conv => whnf
          repeat' ((first | refine RegP.enter ?_ | refine DrawP.range (by kernel_rfl) ?_ | refine BuildP.frz ⟨rfl, ?_⟩ | refine BoxP.row ?_ | refine And.intro (Nat.succ_pos _) ?_ | fail); conv => whnf)
          refine ⟨(), _, rfl, Sub.of_check [((0,0,0), .old true (0,0,0))] ?_ (by repeat' first | exact Gen0.emp | exact Gen0.ofH rfl | refine Gen0.put ?_ (by decide) | refine Gen0.put0 ?_ ⟨_, rfl⟩)⟩
          conv => whnf
          (iterate 3 ((all_goals try (conv => whnf)); (repeat' first | exact ⟨⟩ | refine And.intro ?_ ?_ | rfl | exact fun _ h => h | exact .inl rfl | exact none_some | exact .inr in4 | fail)))
    · obtain ⟨hs2, hb2⟩ := step_ok hev b doc s k' hk'
      replace hr : (match stepF ev (match truthM g with | true => b | false => c) doc s k' with | .unk => .unk | .fail e k => .fail e k | .ok g k => withinM (fullM g) k) = r := hr
      rw [ht] at hr
      replace hr : (match stepF ev b doc s k' with | .unk => .unk | .fail e k => .fail e k | .ok g k => withinM (fullM g) k) = r := hr
      conv => whnf
      repeat' ((first | refine RegP.enter ?_ | refine DrawP.range (by kernel_rfl) ?_ | refine BuildP.frz ⟨rfl, ?_⟩ | refine BoxP.row ?_ | refine And.intro (Nat.succ_pos _) ?_ | fail); conv => whnf)
      refine And.intro ((by decide : 1 < 3)) ?_
      conv => whnf
      refine And.intro ((by decide : 1 < 3)) ?_
      conv => whnf
      generalize stepF ev b doc s k' = rs2 at *
      cases rs2 with
      | unk => exact absurd hr.symm hu
      | fail e k2 =>
        replace hr : .fail e k2 = r := hr
        subst hr
        refine call_mm [((0,0,0), .old true (0,0,0))] 1 72 (hs2) ?_ ?_ ?_
        · conv => whnf
          (iterate 3 ((all_goals try (conv => whnf)); (repeat' first | exact ⟨⟩ | refine And.intro ?_ ?_ | rfl | exact fun _ h => h | exact .inl rfl | exact none_some | exact .inr in4 | fail)))
          all_goals first | exact leK_refl _ (idf_sc _) | exact leK_refl _ (idf_av _)
        · intro _; conv => whnf
          (iterate 3 ((all_goals try (conv => whnf)); (repeat' first | exact ⟨⟩ | refine And.intro ?_ ?_ | rfl | exact fun _ h => h | exact .inl rfl | exact none_some | exact .inr in4 | fail)))
        intro x; conv => whnf
        refine ⟨(), _, rfl, Sub.of_check [((0,0,0), .old true (0,0,0))] ?_ (by repeat' first | exact Gen0.emp | exact Gen0.ofH rfl | refine Gen0.put ?_ (by decide) | refine Gen0.put0 ?_ ⟨_, rfl⟩)⟩
        conv => whnf
        (iterate 3 ((all_goals try (conv => whnf)); (repeat' first | exact ⟨⟩ | refine And.intro ?_ ?_ | rfl | exact fun _ h => h | exact .inl rfl | exact none_some | exact .inr in4 | fail)))
      | ok g2 k2 =>
        replace hr : withinM (fullM g2) k2 = r := hr
        refine call_mm [((0,0,0), .old true (0,0,0))] 1 72 (hs2) ?_ ?_ ?_
        · conv => whnf
          (iterate 3 ((all_goals try (conv => whnf)); (repeat' first | exact ⟨⟩ | refine And.intro ?_ ?_ | rfl | exact fun _ h => h | exact .inl rfl | exact none_some | exact .inr in4 | fail)))
          all_goals first | exact leK_refl _ (idf_sc _) | exact leK_refl _ (idf_av _)
        · intro _; conv => whnf
          (iterate 3 ((all_goals try (conv => whnf)); (repeat' first | exact ⟨⟩ | refine And.intro ?_ ?_ | rfl | exact fun _ h => h | exact .inl rfl | exact none_some | exact .inr in4 | fail)))
        intro x; conv => whnf
        repeat' ((first | refine RegP.enter ?_ | refine DrawP.range (by kernel_rfl) ?_ | refine BuildP.frz ⟨rfl, ?_⟩ | refine BoxP.row ?_ | refine And.intro (Nat.succ_pos _) ?_ | refine call_same (full_ok g2) rfl ?_ | fail); conv => whnf)
        unfold withinM at hr
        by_cases hw : 65536 < (fullM g2).sz
        · rw [decide_eq_true hw] at hr
          subst hr
          refine call_mm [] 1 74 (within_no _ hw) ?_ ?_ ?_
          · conv => whnf
            (iterate 3 ((all_goals try (conv => whnf)); (repeat' first | exact ⟨⟩ | refine And.intro ?_ ?_ | rfl | exact fun _ h => h | exact .inl rfl | exact none_some | exact .inr in4 | fail)))
          · intro _; conv => whnf
            (iterate 3 ((all_goals try (conv => whnf)); (repeat' first | exact ⟨⟩ | refine And.intro ?_ ?_ | rfl | exact fun _ h => h | exact .inl rfl | exact none_some | exact .inr in4 | fail)))
          intro x; conv => whnf
          refine ⟨(), _, rfl, Sub.of_check [((0,0,0), .old true (0,0,0))] ?_ (by repeat' first | exact Gen0.emp | exact Gen0.ofH rfl | refine Gen0.put ?_ (by decide) | refine Gen0.put0 ?_ ⟨_, rfl⟩)⟩
          conv => whnf
          (iterate 3 ((all_goals try (conv => whnf)); (repeat' first | exact ⟨⟩ | refine And.intro ?_ ?_ | rfl | exact fun _ h => h | exact .inl rfl | exact none_some | exact .inr in4 | fail)))
        · rw [decide_eq_false hw] at hr
          subst hr
          refine call_mm [] 1 74 (within_yes _ hw) ?_ ?_ ?_
          · conv => whnf
            (iterate 3 ((all_goals try (conv => whnf)); (repeat' first | exact ⟨⟩ | refine And.intro ?_ ?_ | rfl | exact fun _ h => h | exact .inl rfl | exact none_some | exact .inr in4 | fail)))
          · intro _; conv => whnf
            (iterate 3 ((all_goals try (conv => whnf)); (repeat' first | exact ⟨⟩ | refine And.intro ?_ ?_ | rfl | exact fun _ h => h | exact .inl rfl | exact none_some | exact .inr in4 | fail)))
          intro x; conv => whnf
          repeat' ((first | refine RegP.enter ?_ | refine DrawP.range (by kernel_rfl) ?_ | refine BuildP.frz ⟨rfl, ?_⟩ | refine BoxP.row ?_ | refine And.intro (Nat.succ_pos _) ?_ | fail); conv => whnf)
          refine ⟨(), _, rfl, Sub.of_check [((0,0,0), .old true (0,0,0))] ?_ (by repeat' first | exact Gen0.emp | exact Gen0.ofH rfl | refine Gen0.put ?_ (by decide) | refine Gen0.put0 ?_ ⟨_, rfl⟩)⟩
          conv => whnf
          (iterate 3 ((all_goals try (conv => whnf)); (repeat' first | exact ⟨⟩ | refine And.intro ?_ ?_ | rfl | exact fun _ h => h | exact .inl rfl | exact none_some | exact .inr in4 | fail)))
theorem rowP_bd {ev : Nd → GV → List (ByteArray × GV) → Int → Rs GV} (hev : EvOk ev) {doc : GV} {s : List (ByteArray × GV)} : ∀ (l : List Nd) (k : Int), StepOk k → RsBd k (rowP ev doc s l k)
  | [], k, hk => ⟨Int.le_refl k, hk⟩
  | x :: l, k, hk => by
    have h := (step_ok hev x doc s k hk).2
    unfold rowP
    generalize stepF ev x doc s k = rs at *
    cases rs with
    | unk => trivial
    | fail e k' => exact h
    | ok g k' =>
      have hkk : k ≤ k' := by have := h.1; omega
      have ih := (rowP_bd hev (doc := doc) (s := s) l k' h.2).mono hkk
      simp only
      generalize rowP ev doc s l k' = r at *
      cases r <;> exact ih
theorem withinM_bd {g : GV} {k0 k : Int} (h : k0 ≤ k) (hk : StepOk k) : RsBd k0 (withinM g k) := by
  unfold withinM
  cases decide (65536 < g.sz) with
  | true => exact hk
  | false => exact ⟨h, hk⟩
theorem aftP_bd {O : Ops} (hst : StOk O) {op : ByteArray} {l : List GV} {k0 k : Int} (h : k0 ≤ k) (hk : StepOk k) : RsBd k0 (aftP O op l k) := by
  unfold aftP
  cases O.lo op l with
  | unk => trivial
  | some g => exact withinM_bd h hk
  | none =>
    cases l.any nothingM with
    | true => exact ⟨h, hk⟩
    | false =>
      have hs := (hst op l gNull k hk).2
      simp only
      generalize O.st op l k = rs at *
      cases rs with
      | unk => trivial
      | fail e k' => exact hs
      | ok g k' => exact withinM_bd (Int.le_trans h hs.1) hs.2
theorem plainP_bd {O : Ops} (hst : StOk O) {ev : Nd → GV → List (ByteArray × GV) → Int → Rs GV} (hev : EvOk ev) (op : ByteArray) (args : List Nd) (doc : GV) (s : List (ByteArray × GV)) (k : Int) (hk : StepOk k) : RsBd k (plainP O ev op args doc s k) := by
  rw [plainP_eq]
  have h := rowP_bd hev (doc := doc) (s := s) args k hk
  generalize rowP ev doc s args k = r at *
  cases r with
  | unk => trivial
  | fail e k' => exact h
  | ok l k' => exact aftP_bd hst h.1 h.2
theorem condP_bd {ev : Nd → GV → List (ByteArray × GV) → Int → Rs GV} (hev : EvOk ev) (a b c : Nd) (doc : GV) (s : List (ByteArray × GV)) (k : Int) (hk : StepOk k) : RsBd k (condP ev a b c doc s k) := by
  unfold condP
  have h := (step_ok hev a doc s k hk).2
  generalize stepF ev a doc s k = r at *
  cases r with
  | unk => trivial
  | fail e k' => exact h
  | ok g k' =>
    have hkk : k ≤ k' := by have := h.1; omega
    have key : ∀ x, RsBd k (match stepF ev x doc s k' with | .unk => .unk | .fail e k => .fail e k | .ok g k => withinM (fullM g) k) := by
      intro x
      have h2 := (step_ok hev x doc s k' h.2).2
      generalize stepF ev x doc s k' = r2 at *
      cases r2 with
      | unk => trivial
      | fail e k2 => exact h2
      | ok g2 k2 => exact withinM_bd (by have := h2.1; omega) h2.2
    exact key _
/-- Whatever is told of an expression is so. -/
theorem evalP_ok {O : Ops} (hlo : LoOk O) (hst : StOk O) : ∀ n, EvOk (evalP O n)
  | 0 => fun _ _ _ _ _ => ⟨trivial, trivial⟩
  | n + 1 => fun x doc s k hk => by
    have ih := evalP_ok hlo hst n
    cases x with
    | lit g => exact ⟨lit_ok g doc s k, Int.le_refl k, hk⟩
    | con g => exact ⟨con_ok g doc s k, Int.le_refl k, hk⟩
    | fld p => exact ⟨fld_ok p doc s k, Int.le_refl k, hk⟩
    | var m p => exact ⟨var_ok m p doc s k, Int.le_refl k, hk⟩
    | lst l =>
      have h1 := lst_ok ih l doc s k hk
      have h2 := pileP_bd ih (doc := doc) (s := s) l 0 65531 k hk
      have e : evalP O (n + 1) (.lst l) doc s k = liftL [] (pileP (evalP O n) doc s l 0 65531 k) := by
        rw [evalP]
        generalize pileP (evalP O n) doc s l 0 65531 k = r
        cases r <;> rfl
      rw [e]
      refine ⟨h1, ?_⟩
      generalize pileP (evalP O n) doc s l 0 65531 k = r at *
      cases r <;> exact h2
    | docm l => exact ⟨trivial, trivial⟩
    | loop op nm over first body => exact ⟨trivial, trivial⟩
    | call op args =>
      show RsSpec 388 [.agg [.str op, .lz (.gn args)], .ptr (0,0,0) 0 0, scAV s] doc k (callP O (evalP O n) op args doc s k) ∧ RsBd k (callP O (evalP O n) op args doc s k)
      unfold callP
      cases t1 : decide (op = oLiteral) with
      | true =>
        have := of_decide_eq_true t1
        subst this
        cases args with
        | nil => exact ⟨trivial, trivial⟩
        | cons a l => exact ⟨quote_ok ih a l doc s k hk, (ih a doc s k hk).2⟩
      | false =>
        cases t2 : decide (op = oAnd) with
        | true => exact ⟨trivial, trivial⟩
        | false =>
        cases t3 : decide (op = oOr) with
        | true => exact ⟨trivial, trivial⟩
        | false =>
        cases t4 : decide (op = oCond) with
        | true =>
          have := of_decide_eq_true t4
          subst this
          match args with
          | [] => exact ⟨trivial, trivial⟩
          | [_] => exact ⟨trivial, trivial⟩
          | [_, _] => exact ⟨trivial, trivial⟩
          | [a, b, c] => exact ⟨cond_ok ih a b c doc s k hk, condP_bd ih a b c doc s k hk⟩
          | _ :: _ :: _ :: _ :: _ => exact ⟨trivial, trivial⟩
        | false =>
        cases t5 : decide (op = oIfNull) with
        | true => exact ⟨trivial, trivial⟩
        | false => exact ⟨plain_ok hlo hst ih op args doc s k hk t1 t2 t3 t4 t5, plainP_bd hst ih op args doc s k hk⟩
end Go.Eng

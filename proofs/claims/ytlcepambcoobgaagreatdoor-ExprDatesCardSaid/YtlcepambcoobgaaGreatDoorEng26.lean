/- Eng26: an engine for the program's code, and walks of its functions (Xg Pl Pm Xh En). -/
import Derived.Test.YtlcepambcoobgaaGreatDoorEng25
import Derived.Test.YtlcepambcoobgaaGreatDoorEng09
namespace Go.Eng
open Go.Proofs
set_option maxRecDepth 10000
theorem work_yes {n : Nat} {ev : Nd → GV → List (ByteArray × GV) → Int → Rs GV} (hev : EvOk ev) {g doc : GV} {x : Nd} (hr : rightM g = 0) (hp : parseF n [] g = .yes x) (hu : stepF ev x doc [] 0 ≠ .unk) :
    PSpec cxA 26 [.agg g.cells, .agg doc.cells] (.ret (.tup [.agg (outR (stepF ev x doc [] 0)).1.cells, .int (outR (stepF ev x doc [] 0)).2])) := by
  have h1 := pparse_ok n g (fun _ => by rw [hp]; simp)
  have e : pOut n g = [exprAV x, .int 0] := by unfold pOut; rw [decide_eq_true hr, hp]
  rw [e] at h1
  have h2 := eval_ok hev x doc hu
  generalize outR (stepF ev x doc [] 0) = r at *
  obtain ⟨v, e⟩ := r
  refine PSpec.of_WC cxA_ok Tryz.func26 rfl Tryz.call26 (Nat.le_of_ble_eq_true rfl) (g := 1) ?_
  conv => whnf
  refine RegP.enter ?_
  conv => whnf
  refine BoxP.frz ⟨rfl, ?_⟩
  conv => whnf
  refine BoxP.frz ⟨rfl, ?_⟩
  conv => whnf
  repeat' first | (refine RegP.enter ?_; conv => whnf) | (refine DrawP.range (by kernel_rfl) ?_; conv => whnf) | (refine BuildP.frz ⟨rfl, ?_⟩; conv => whnf) | (refine BoxP.row ?_; conv => whnf) | (refine And.intro Nat.zero_lt_one ?_; conv => whnf) | (refine And.intro (Nat.succ_pos _) ?_; conv => whnf) | (refine call_same (h1) rfl ?_; conv => whnf) | fail
  refine call_le (h2) ?_ (by rfl) (by rfl) ?_
  · (iterate 3 ((all_goals try (conv => whnf)); (repeat' first | exact True.intro | (refine And.intro ?_ ?_) | rfl | exact fun _ h => h | exact .inl rfl | exact none_some | exact .inr ⟨rfl, rfl, fun _ _ => rfl⟩ | exact .inr ⟨rfl, rfl, lt1 rfl⟩ | exact .inr ⟨rfl, rfl, lt2 rfl rfl⟩ | exact .inr ⟨rfl, rfl, lt3 rfl rfl rfl⟩ | fail)))
    all_goals trace_state
  conv => whnf
  repeat' first | (refine RegP.enter ?_; conv => whnf) | (refine DrawP.range (by kernel_rfl) ?_; conv => whnf) | (refine BuildP.frz ⟨rfl, ?_⟩; conv => whnf) | (refine BoxP.row ?_; conv => whnf) | (refine And.intro Nat.zero_lt_one ?_; conv => whnf) | (refine And.intro (Nat.succ_pos _) ?_; conv => whnf) | fail
  refine Ent.of_check ?_ rfl
  conv => whnf
  (iterate 3 ((all_goals try (conv => whnf)); (repeat' first | exact True.intro | (refine And.intro ?_ ?_) | rfl | exact fun _ h => h | exact .inl rfl | exact none_some | exact .inr ⟨rfl, rfl, fun _ _ => rfl⟩ | exact .inr ⟨rfl, rfl, lt1 rfl⟩ | exact .inr ⟨rfl, rfl, lt2 rfl rfl⟩ | exact .inr ⟨rfl, rfl, lt3 rfl rfl rfl⟩ | fail)))
theorem work_no {n : Nat} {g doc : GV} (hr : rightM g = 0) (hp : parseF n [] g = .no) :
    PSpec cxA 26 [.agg g.cells, .agg doc.cells] (.ret (.tup [.agg gZero.cells, .int 50])) := by
  have h1 := pparse_ok n g (fun _ => by rw [hp]; simp)
  have e : pOut n g = [.lit (.pointer none), .int 50] := by unfold pOut; rw [decide_eq_true hr, hp]
  rw [e] at h1
  refine PSpec.of_WC cxA_ok Tryz.func26 rfl Tryz.call26 (Nat.le_of_ble_eq_true rfl) (g := 1) ?_
  conv => whnf
  refine RegP.enter ?_
  conv => whnf
  refine BoxP.frz ⟨rfl, ?_⟩
  conv => whnf
  refine BoxP.frz ⟨rfl, ?_⟩
  conv => whnf
  repeat' first | (refine RegP.enter ?_; conv => whnf) | (refine DrawP.range (by kernel_rfl) ?_; conv => whnf) | (refine BuildP.frz ⟨rfl, ?_⟩; conv => whnf) | (refine BoxP.row ?_; conv => whnf) | (refine And.intro Nat.zero_lt_one ?_; conv => whnf) | (refine And.intro (Nat.succ_pos _) ?_; conv => whnf) | (refine call_same (h1) rfl ?_; conv => whnf) | fail
  refine Ent.of_check ?_ rfl
  conv => whnf
  (iterate 3 ((all_goals try (conv => whnf)); (repeat' first | exact True.intro | (refine And.intro ?_ ?_) | rfl | exact fun _ h => h | exact .inl rfl | exact none_some | exact .inr ⟨rfl, rfl, fun _ _ => rfl⟩ | exact .inr ⟨rfl, rfl, lt1 rfl⟩ | exact .inr ⟨rfl, rfl, lt2 rfl rfl⟩ | exact .inr ⟨rfl, rfl, lt3 rfl rfl rfl⟩ | fail)))
/-- What the program's 'whole' answers. -/
def wholeOut (r : GV × Int) : List AV := [.int r.1.int, .bool (decide (r.2 = 0) && decide (r.1.kind = 3))]
theorem whole_ok {op : ByteArray} {a b : Int} {r : GV × Int} (hw : PSpec cxA 26 [.agg (gCall op [gInt a, gInt b]).cells, .agg gZero.cells] (.ret (.tup [.agg r.1.cells, .int r.2]))) :
    PSpec cxA 30 [.str op, .int a, .int b] (.ret (.tup (wholeOut r))) := by
  have hc := call_ok op [gInt a, gInt b]
  obtain ⟨v, e⟩ := r
  generalize hr : wholeOut (v, e) = u
  unfold wholeOut at hr
  refine PSpec.of_WC cxA_ok Tryz.func30 rfl Tryz.call30 (Nat.le_of_ble_eq_true rfl) (g := 1) ?_
  conv => whnf
  repeat' first | (refine RegP.enter ?_; conv => whnf) | (refine DrawP.range (by kernel_rfl) ?_; conv => whnf) | (refine BuildP.frz ⟨rfl, ?_⟩; conv => whnf) | (refine BoxP.row ?_; conv => whnf) | (refine And.intro Nat.zero_lt_one ?_; conv => whnf) | (refine And.intro (Nat.succ_pos _) ?_; conv => whnf) | (refine call_same (int_ok a) rfl ?_; conv => whnf) | (refine call_same (int_ok b) rfl ?_; conv => whnf) | fail
  refine call_le (hc) ?_ (by rfl) (by rfl) ?_
  · (iterate 3 ((all_goals try (conv => whnf)); (repeat' first | exact True.intro | (refine And.intro ?_ ?_) | rfl | exact fun _ h => h | exact .inl rfl | exact none_some | exact .inr ⟨rfl, rfl, fun _ _ => rfl⟩ | exact .inr ⟨rfl, rfl, lt1 rfl⟩ | exact .inr ⟨rfl, rfl, lt2 rfl rfl⟩ | exact .inr ⟨rfl, rfl, lt3 rfl rfl rfl⟩ | fail)))
    all_goals trace_state
  conv => whnf
  refine call_le (hw) ?_ (by rfl) (by rfl) ?_
  · (iterate 3 ((all_goals try (conv => whnf)); (repeat' first | exact True.intro | (refine And.intro ?_ ?_) | rfl | exact fun _ h => h | exact .inl rfl | exact none_some | exact .inr ⟨rfl, rfl, fun _ _ => rfl⟩ | exact .inr ⟨rfl, rfl, lt1 rfl⟩ | exact .inr ⟨rfl, rfl, lt2 rfl rfl⟩ | exact .inr ⟨rfl, rfl, lt3 rfl rfl rfl⟩ | fail)))
    all_goals trace_state
  conv => whnf
  repeat' first | (refine RegP.enter ?_; conv => whnf) | (refine DrawP.range (by kernel_rfl) ?_; conv => whnf) | (refine BuildP.frz ⟨rfl, ?_⟩; conv => whnf) | (refine BoxP.row ?_; conv => whnf) | (refine And.intro Nat.zero_lt_one ?_; conv => whnf) | (refine And.intro (Nat.succ_pos _) ?_; conv => whnf) | fail
  cases h0 : (e == 0)
  · have h0' : decide (e = 0) = false := by simpa using h0
    simp only [h0', Bool.false_and] at hr
    subst hr
    conv => whnf
    repeat' first | (refine RegP.enter ?_; conv => whnf) | (refine DrawP.range (by kernel_rfl) ?_; conv => whnf) | (refine BuildP.frz ⟨rfl, ?_⟩; conv => whnf) | (refine BoxP.row ?_; conv => whnf) | (refine And.intro Nat.zero_lt_one ?_; conv => whnf) | (refine And.intro (Nat.succ_pos _) ?_; conv => whnf) | fail

    refine Ent.of_check ?_ rfl
    conv => whnf
    (iterate 3 ((all_goals try (conv => whnf)); (repeat' first | exact True.intro | (refine And.intro ?_ ?_) | rfl | exact fun _ h => h | exact .inl rfl | exact none_some | exact .inr ⟨rfl, rfl, fun _ _ => rfl⟩ | exact .inr ⟨rfl, rfl, lt1 rfl⟩ | exact .inr ⟨rfl, rfl, lt2 rfl rfl⟩ | exact .inr ⟨rfl, rfl, lt3 rfl rfl rfl⟩ | fail)))
  · have h0' : decide (e = 0) = true := by simpa using h0
    simp only [h0', Bool.true_and] at hr
    subst hr
    conv => whnf
    repeat' first | (refine RegP.enter ?_; conv => whnf) | (refine DrawP.range (by kernel_rfl) ?_; conv => whnf) | (refine BuildP.frz ⟨rfl, ?_⟩; conv => whnf) | (refine BoxP.row ?_; conv => whnf) | (refine And.intro Nat.zero_lt_one ?_; conv => whnf) | (refine And.intro (Nat.succ_pos _) ?_; conv => whnf) | fail

    refine Ent.of_check ?_ rfl
    conv => whnf
    (iterate 3 ((all_goals try (conv => whnf)); (repeat' first | exact True.intro | (refine And.intro ?_ ?_) | rfl | exact fun _ h => h | exact .inl rfl | exact none_some | exact .inr ⟨rfl, rfl, fun _ _ => rfl⟩ | exact .inr ⟨rfl, rfl, lt1 rfl⟩ | exact .inr ⟨rfl, rfl, lt2 rfl rfl⟩ | exact .inr ⟨rfl, rfl, lt3 rfl rfl rfl⟩ | fail)))
end Go.Eng
/- Sums: what work comes to. -/
namespace Go.Eng
open Go.Proofs
set_option maxRecDepth 20000
def two (op : ByteArray) (a b : Int) : Nd := .call op [.lit (gInt a), .lit (gInt b)]
theorem sz_two {op : ByteArray} (ho : op.size ≤ 100) (a b : Int) : (gCall op [gInt a, gInt b]).sz ≤ 65536 := by
  have h0 := Lib.itoa_length_le ((0 : Nat) : Int) (by decide) (by decide)
  have h1 := Lib.itoa_length_le ((1 : Nat) : Int) (by decide) (by decide)
  simp [gCall, gDoc, gList, gInt, GV.sz, szD, szL] at *
  omega
set_option maxHeartbeats 4000000 in
theorem sz_three {op : ByteArray} (ho : op.size ≤ 100) (a b c : Int) : (gCall op [gInt a, gInt b, gInt c]).sz ≤ 65536 := by
  have h0 := Lib.itoa_length_le ((0 : Nat) : Int) (by decide) (by decide)
  have h1 := Lib.itoa_length_le ((1 : Nat) : Int) (by decide) (by decide)
  have h2 := Lib.itoa_length_le ((2 : Nat) : Int) (by decide) (by decide)
  simp [gCall, gDoc, gList, gInt, GV.sz, szD, szL] at *
  omega
def numP (n : Int) : GV × Int := match inInt n with | true => (gInt n, 0) | false => (gZero, 52)
def wOut (n : Int) (ok : Bool) : List AV := match ok with | true => [.int n, .bool true] | false => [.int 0, .bool false]
theorem wOut_num (n : Int) : wholeOut (numP n) = wOut n (inInt n) := by
  unfold numP wOut
  cases inInt n <;> rfl
theorem work_two {op : ByteArray} {a b : Int} {doc : GV} {r : GV × Int} (hr : rightM (gCall op [gInt a, gInt b]) = 0) (hp : parseF 3 [] (gCall op [gInt a, gInt b]) = .yes (two op a b)) (he : ∃ q, stepF (evalP OI 2) (two op a b) doc [] 0 = q ∧ q ≠ .unk ∧ outR q = r) :
    PSpec cxA 26 [.agg (gCall op [gInt a, gInt b]).cells, .agg doc.cells] (.ret (.tup [.agg r.1.cells, .int r.2])) := by
  obtain ⟨q, h1, h2, h3⟩ := he
  have := work_yes (evalI_ok 2) (doc := doc) hr hp (by rw [h1]; exact h2)
  rw [h1, h3] at this
  exact this
def behindS (r : Rs GV) : Rs GV := match r with | .unk => .unk | .fail e k => .fail e k | .ok g k => withinM g k
theorem behind_num (n k : Int) : behindS (numM n k) ≠ .unk ∧ outR (behindS (numM n k)) = numP n := by
  unfold numM numP
  cases inInt n
  · exact ⟨by simp [behindS], rfl⟩
  · exact ⟨by show (Rs.ok (gInt n) k : Rs GV) ≠ .unk; simp, rfl⟩
theorem sum_num (a b k : Int) : numR (sumL a [gInt b] k) = numM (a + b) k := by
  show numR (match inInt (a + b) with | true => .ok (a + b) k | false => .fail 52 k) = _
  unfold numM
  cases inInt (a + b) <;> rfl
theorem mul_num (a b k : Int) : numR (mulL a [gInt b] k) = numM (a * b) k := by
  show numR (match inInt (a * b) with | true => .ok (a * b) k | false => .fail 52 k) = _
  unfold numM
  cases inInt (a * b) <;> rfl
theorem all_two {a b : Int} (ha : inInt a = true) (hb : inInt b = true) : (allKind 3 [gInt a, gInt b] && [gInt a, gInt b].all (fun g => inInt g.int)) = true := by
  show ((true && (true && true)) && (inInt a && (inInt b && true))) = true
  rw [ha, hb]; rfl
theorem right_Add (a b : Int) : rightM (gCall oAdd [gInt a, gInt b]) = 0 := by
  unfold rightM
  rw [if_pos (sz_two (by decide) a b)]
  rfl
theorem parse_Add (a b : Int) : parseF 3 [] (gCall oAdd [gInt a, gInt b]) = .yes (two oAdd a b) := by rfl
theorem step_Add (a b : Int) (doc : GV) : stepF (evalP OI 2) (two oAdd a b) doc [] 0 = behindS (strictI oAdd [gInt a, gInt b] 3) := by rfl
theorem right_Subtract (a b : Int) : rightM (gCall oSubtract [gInt a, gInt b]) = 0 := by
  unfold rightM
  rw [if_pos (sz_two (by decide) a b)]
  rfl
theorem parse_Subtract (a b : Int) : parseF 3 [] (gCall oSubtract [gInt a, gInt b]) = .yes (two oSubtract a b) := by rfl
theorem step_Subtract (a b : Int) (doc : GV) : stepF (evalP OI 2) (two oSubtract a b) doc [] 0 = behindS (strictI oSubtract [gInt a, gInt b] 3) := by rfl
theorem right_Multiply (a b : Int) : rightM (gCall oMultiply [gInt a, gInt b]) = 0 := by
  unfold rightM
  rw [if_pos (sz_two (by decide) a b)]
  rfl
theorem parse_Multiply (a b : Int) : parseF 3 [] (gCall oMultiply [gInt a, gInt b]) = .yes (two oMultiply a b) := by rfl
theorem step_Multiply (a b : Int) (doc : GV) : stepF (evalP OI 2) (two oMultiply a b) doc [] 0 = behindS (strictI oMultiply [gInt a, gInt b] 3) := by rfl
theorem right_Divide (a b : Int) : rightM (gCall oDivide [gInt a, gInt b]) = 0 := by
  unfold rightM
  rw [if_pos (sz_two (by decide) a b)]
  rfl
theorem parse_Divide (a b : Int) : parseF 3 [] (gCall oDivide [gInt a, gInt b]) = .yes (two oDivide a b) := by rfl
theorem step_Divide (a b : Int) (doc : GV) : stepF (evalP OI 2) (two oDivide a b) doc [] 0 = behindS (strictI oDivide [gInt a, gInt b] 3) := by rfl
theorem right_Mod (a b : Int) : rightM (gCall oMod [gInt a, gInt b]) = 0 := by
  unfold rightM
  rw [if_pos (sz_two (by decide) a b)]
  rfl
theorem parse_Mod (a b : Int) : parseF 3 [] (gCall oMod [gInt a, gInt b]) = .yes (two oMod a b) := by rfl
theorem step_Mod (a b : Int) (doc : GV) : stepF (evalP OI 2) (two oMod a b) doc [] 0 = behindS (strictI oMod [gInt a, gInt b] 3) := by rfl
theorem strict_Add {a b : Int} (ha : inInt a = true) (hb : inInt b = true) : strictI oAdd [gInt a, gInt b] 3 = numM (a + b) 3 := by
  unfold strictI
  rw [all_two ha hb, ← sum_num]
  rfl
theorem strict_Subtract {a b : Int} (ha : inInt a = true) (hb : inInt b = true) : strictI oSubtract [gInt a, gInt b] 3 = numM (a - b) 3 := by
  unfold strictI
  rw [all_two ha hb]
  rfl
theorem strict_Multiply {a b : Int} (ha : inInt a = true) (hb : inInt b = true) : strictI oMultiply [gInt a, gInt b] 3 = numM (a * b) 3 := by
  unfold strictI
  rw [all_two ha hb, ← mul_num]
  rfl
theorem strict_Divide {a b : Int} (ha : inInt a = true) (hb : inInt b = true) : strictI oDivide [gInt a, gInt b] 3 = (match decide (b = 0) with | true => .fail 53 3 | false => numM (a.tdiv b) 3) := by
  unfold strictI
  rw [all_two ha hb]
  rfl
theorem strict_Mod {a b : Int} (ha : inInt a = true) (hb : inInt b = true) : strictI oMod [gInt a, gInt b] 3 = (match decide (b = 0) with | true => .fail 53 3 | false => .ok (gInt (a.tmod b)) 3) := by
  unfold strictI
  rw [all_two ha hb]
  rfl
theorem work_Add {a b : Int} (ha : inInt a = true) (hb : inInt b = true) (doc : GV) : PSpec cxA 26 [.agg (gCall oAdd [gInt a, gInt b]).cells, .agg doc.cells] (.ret (.tup [.agg (numP (a + b)).1.cells, .int (numP (a + b)).2])) :=
  work_two (right_Add a b) (parse_Add a b) ⟨_, step_Add a b doc, by rw [strict_Add ha hb]; exact behind_num _ 3⟩
theorem whole_Add {a b : Int} (ha : inInt a = true) (hb : inInt b = true) : PSpec cxA 30 [.str oAdd, .int a, .int b] (.ret (.tup (wOut (a + b) (inInt (a + b))))) := by
  have := whole_ok (work_Add ha hb gZero)
  rw [wOut_num] at this
  exact this
theorem work_Subtract {a b : Int} (ha : inInt a = true) (hb : inInt b = true) (doc : GV) : PSpec cxA 26 [.agg (gCall oSubtract [gInt a, gInt b]).cells, .agg doc.cells] (.ret (.tup [.agg (numP (a - b)).1.cells, .int (numP (a - b)).2])) :=
  work_two (right_Subtract a b) (parse_Subtract a b) ⟨_, step_Subtract a b doc, by rw [strict_Subtract ha hb]; exact behind_num _ 3⟩
theorem whole_Subtract {a b : Int} (ha : inInt a = true) (hb : inInt b = true) : PSpec cxA 30 [.str oSubtract, .int a, .int b] (.ret (.tup (wOut (a - b) (inInt (a - b))))) := by
  have := whole_ok (work_Subtract ha hb gZero)
  rw [wOut_num] at this
  exact this
theorem work_Multiply {a b : Int} (ha : inInt a = true) (hb : inInt b = true) (doc : GV) : PSpec cxA 26 [.agg (gCall oMultiply [gInt a, gInt b]).cells, .agg doc.cells] (.ret (.tup [.agg (numP (a * b)).1.cells, .int (numP (a * b)).2])) :=
  work_two (right_Multiply a b) (parse_Multiply a b) ⟨_, step_Multiply a b doc, by rw [strict_Multiply ha hb]; exact behind_num _ 3⟩
theorem whole_Multiply {a b : Int} (ha : inInt a = true) (hb : inInt b = true) : PSpec cxA 30 [.str oMultiply, .int a, .int b] (.ret (.tup (wOut (a * b) (inInt (a * b))))) := by
  have := whole_ok (work_Multiply ha hb gZero)
  rw [wOut_num] at this
  exact this
theorem work_Divide {a b : Int} (ha : inInt a = true) (hb : inInt b = true) (h0 : ¬ b = 0) (doc : GV) : PSpec cxA 26 [.agg (gCall oDivide [gInt a, gInt b]).cells, .agg doc.cells] (.ret (.tup [.agg (numP (a.tdiv b)).1.cells, .int (numP (a.tdiv b)).2])) :=
  work_two (right_Divide a b) (parse_Divide a b) ⟨_, step_Divide a b doc, by rw [strict_Divide ha hb, decide_eq_false h0]; exact behind_num _ 3⟩
theorem whole_Divide {a b : Int} (ha : inInt a = true) (hb : inInt b = true) (h0 : ¬ b = 0) : PSpec cxA 30 [.str oDivide, .int a, .int b] (.ret (.tup (wOut (a.tdiv b) (inInt (a.tdiv b))))) := by
  have := whole_ok (work_Divide ha hb h0 gZero)
  rw [wOut_num] at this
  exact this
theorem whole_Divide0 {a b : Int} (ha : inInt a = true) (hb : inInt b = true) (h0 : b = 0) : PSpec cxA 30 [.str oDivide, .int a, .int b] (.ret (.tup (wOut 0 false))) :=
  whole_ok (r := (gZero, 53)) (work_two (right_Divide a b) (parse_Divide a b) ⟨_, step_Divide a b gZero, by rw [strict_Divide ha hb, decide_eq_true h0]; exact ⟨by simp [behindS], rfl⟩⟩)
theorem whole_Mod {a b : Int} (ha : inInt a = true) (hb : inInt b = true) (h0 : ¬ b = 0) : PSpec cxA 30 [.str oMod, .int a, .int b] (.ret (.tup (wOut (a.tmod b) true))) :=
  whole_ok (r := (gInt (a.tmod b), 0)) (work_two (right_Mod a b) (parse_Mod a b) ⟨_, step_Mod a b gZero, by rw [strict_Mod ha hb, decide_eq_false h0]; exact ⟨by show (Rs.ok (gInt (a.tmod b)) 3 : Rs GV) ≠ .unk; simp, rfl⟩⟩)
theorem whole_Mod0 {a b : Int} (ha : inInt a = true) (hb : inInt b = true) (h0 : b = 0) : PSpec cxA 30 [.str oMod, .int a, .int b] (.ret (.tup (wOut 0 false))) :=
  whole_ok (r := (gZero, 53)) (work_two (right_Mod a b) (parse_Mod a b) ⟨_, step_Mod a b gZero, by rw [strict_Mod ha hb, decide_eq_true h0]; exact ⟨by simp [behindS], rfl⟩⟩)
/-! The greatest of three. -/
def three (op : ByteArray) (a b c : Int) : Nd := .call op [.lit (gInt a), .lit (gInt b), .lit (gInt c)]
theorem right_Max (a b c : Int) : rightM (gCall oMax [gInt a, gInt b, gInt c]) = 0 := by
  unfold rightM
  rw [if_pos (sz_three (by decide) a b c)]
  rfl
theorem parse_Max (a b c : Int) : parseF 3 [] (gCall oMax [gInt a, gInt b, gInt c]) = .yes (three oMax a b c) := by rfl
def maxI (a b c : Int) : Int := max (max a b) c
theorem maxV_int (a b c : Int) : maxV (gInt a) [gInt b, gInt c] = gInt (maxI a b c) := by
  show maxV (match decide (a < b) with | true => gInt b | false => gInt a) [gInt c] = _
  unfold maxI
  by_cases h : a < b
  · rw [decide_eq_true h]
    show (match decide (b < c) with | true => gInt c | false => gInt b) = _
    by_cases h2 : b < c
    · rw [decide_eq_true h2]; exact congrArg gInt (by simp only [Int.max_def]; repeat' split <;> omega)
    · rw [decide_eq_false h2]; exact congrArg gInt (by simp only [Int.max_def]; repeat' split <;> omega)
  · rw [decide_eq_false h]
    show (match decide (a < c) with | true => gInt c | false => gInt a) = _
    by_cases h2 : a < c
    · rw [decide_eq_true h2]; exact congrArg gInt (by simp only [Int.max_def]; repeat' split <;> omega)
    · rw [decide_eq_false h2]; exact congrArg gInt (by simp only [Int.max_def]; repeat' split <;> omega)
theorem step_Max (a b c : Int) (doc : GV) : stepF (evalP OI 2) (three oMax a b c) doc [] 0 = withinM (maxV (gInt a) [gInt b, gInt c]) 4 := by rfl
theorem work_Max (a b c : Int) (doc : GV) : PSpec cxA 26 [.agg (gCall oMax [gInt a, gInt b, gInt c]).cells, .agg doc.cells] (.ret (.tup [.agg (gInt (maxI a b c)).cells, .int 0])) := by
  have hs := step_Max a b c doc
  rw [maxV_int] at hs
  have hs : stepF (evalP OI 2) (three oMax a b c) doc [] 0 = .ok (gInt (maxI a b c)) 4 := hs
  have := work_yes (evalI_ok 2) (doc := doc) (right_Max a b c) (parse_Max a b c) (by rw [hs]; simp)
  rw [hs] at this
  exact this
end Go.Eng
/- The document's examples. -/
namespace Go.Eng
open Go.Proofs
set_option maxRecDepth 20000
abbrev tA : ByteArray := ⟨#[97]⟩
abbrev tDA : ByteArray := ⟨#[36, 97]⟩
abbrev tD : ByteArray := ⟨#[36]⟩
abbrev tBig : ByteArray := ⟨#[98, 105, 103]⟩
def docA : GV := gDoc tA (gInt 5)
def ex1 : GV := gCall oAdd [gText tDA, gInt 1]
def ex4 : GV := gCall oCond [gCall oGt [gText tDA, gInt 3], gText tBig, gCall oDivide [gInt 1, gInt 0]]
theorem sz_ex1 : ex1.sz ≤ 65536 := by
  have h0 := Lib.itoa_length_le ((0 : Nat) : Int) (by decide) (by decide)
  have h1 := Lib.itoa_length_le ((1 : Nat) : Int) (by decide) (by decide)
  have e : ex1.sz = 5 + (2 + 4 + (5 + (2 + (Lib.itoa ((0 : Nat) : Int)).length + (5 + 2) + (2 + (Lib.itoa ((1 : Nat) : Int)).length + 8 + 0))) + 0) := by rfl
  omega
theorem right_ex1 : rightM ex1 = 0 := by
  unfold rightM
  rw [if_pos sz_ex1]
  rfl
theorem parse_ex1 : parseF 3 [] ex1 = .yes (.call oAdd [.fld [tA], .lit (gInt 1)]) := by rfl
theorem step_ex1 : stepF (evalP OI 2) (.call oAdd [.fld [tA], .lit (gInt 1)]) docA [] 0 = .ok (gInt 6) 3 := by rfl
theorem right_ex3 : rightM (gText tD) = 0 := by rfl
theorem parse_ex3 : parseF 3 [] (gText tD) = .no := by rfl
theorem sz_ex4 : ex4.sz ≤ 65536 := by
  have h0 := Lib.itoa_length_le ((0 : Nat) : Int) (by decide) (by decide)
  have h1 := Lib.itoa_length_le ((1 : Nat) : Int) (by decide) (by decide)
  have h2 := Lib.itoa_length_le ((2 : Nat) : Int) (by decide) (by decide)
  have e1 : (gCall oGt [gText tDA, gInt 3]).sz = 5 + (2 + 3 + (5 + (2 + (Lib.itoa ((0 : Nat) : Int)).length + (5 + 2) + (2 + (Lib.itoa ((1 : Nat) : Int)).length + 8 + 0))) + 0) := by rfl
  have e2 : (gCall oDivide [gInt 1, gInt 0]).sz = 5 + (2 + 7 + (5 + (2 + (Lib.itoa ((0 : Nat) : Int)).length + 8 + (2 + (Lib.itoa ((1 : Nat) : Int)).length + 8 + 0))) + 0) := by rfl
  have e : ex4.sz = 5 + (2 + 5 + (5 + (2 + (Lib.itoa ((0 : Nat) : Int)).length + (gCall oGt [gText tDA, gInt 3]).sz + (2 + (Lib.itoa ((1 : Nat) : Int)).length + (5 + 3) + (2 + (Lib.itoa ((2 : Nat) : Int)).length + (gCall oDivide [gInt 1, gInt 0]).sz + 0)))) + 0) := by rfl
  omega
theorem right_ex4 : rightM ex4 = 0 := by
  unfold rightM
  rw [if_pos sz_ex4]
  rfl
def nd4 : Nd := .call oCond [.call oGt [.fld [tA], .lit (gInt 3)], .lit (gText tBig), .call oDivide [.lit (gInt 1), .lit (gInt 0)]]
theorem parse_ex4 : parseF 4 [] ex4 = .yes nd4 := by rfl
theorem step_ex4 : ∃ k, stepF (evalP OI 4) nd4 docA [] 0 = .ok (gText tBig) k := ⟨_, rfl⟩
theorem work_ex1 : PSpec cxA 26 [.agg ex1.cells, .agg docA.cells] (.ret (.tup [.agg (gInt 6).cells, .int 0])) := by
  have := work_yes (evalI_ok 2) (doc := docA) right_ex1 parse_ex1 (by rw [step_ex1]; simp)
  rw [step_ex1] at this
  exact this
theorem work_ex2 : PSpec cxA 26 [.agg (gCall oDivide [gInt (-7), gInt 2]).cells, .agg docA.cells] (.ret (.tup [.agg (gInt (-3)).cells, .int 0])) :=
  work_Divide (a := -7) (b := 2) (by decide) (by decide) (by decide) docA
theorem work_ex3 : PSpec cxA 26 [.agg (gText tD).cells, .agg docA.cells] (.ret (.tup [.agg gZero.cells, .int 50])) := work_no right_ex3 parse_ex3
theorem work_ex4 : PSpec cxA 26 [.agg ex4.cells, .agg docA.cells] (.ret (.tup [.agg (gText tBig).cells, .int 0])) := by
  obtain ⟨k, hk⟩ := step_ex4
  have := work_yes (evalI_ok 4) (doc := docA) right_ex4 parse_ex4 (by rw [hk]; simp)
  rw [hk] at this
  exact this
end Go.Eng
namespace Go.Eng
open Go.Proofs
set_option maxRecDepth 20000
set_option maxHeartbeats 2000000
theorem awake_ok : PSpec cxA 20 [] (.ret (.bool true)) := by
  refine PSpec.of_WC cxA_ok Tryz.func20 rfl Tryz.call20 (Nat.le_of_ble_eq_true rfl) (g := 1) ?_
  conv => whnf
  repeat' first | (refine RegP.enter ?_; conv => whnf) | (refine DrawP.range (by kernel_rfl) ?_; conv => whnf) | (refine BuildP.frz ⟨rfl, ?_⟩; conv => whnf) | (refine BoxP.row ?_; conv => whnf) | (refine And.intro Nat.zero_lt_one ?_; conv => whnf) | (refine And.intro (Nat.succ_pos _) ?_; conv => whnf) | (refine call_same (int_ok 5) rfl ?_; conv => whnf) | (refine call_same (doc_ok tA (gInt 5)) rfl ?_; conv => whnf) | (refine call_same (text_ok tDA) rfl ?_; conv => whnf) | (refine call_same (int_ok 1) rfl ?_; conv => whnf) | fail
  refine call_le (call_ok oAdd [gText tDA, gInt 1]) ?_ (by rfl) (by rfl) ?_
  · (iterate 3 ((all_goals try (conv => whnf)); (repeat' first | exact True.intro | (refine And.intro ?_ ?_) | rfl | exact fun _ h => h | exact .inl rfl | exact none_some | exact .inr ⟨rfl, rfl, fun _ _ => rfl⟩ | exact .inr ⟨rfl, rfl, lt1 rfl⟩ | exact .inr ⟨rfl, rfl, lt2 rfl rfl⟩ | exact .inr ⟨rfl, rfl, lt3 rfl rfl rfl⟩ | fail)))
    all_goals trace_state
  conv => whnf
  repeat' first | (refine RegP.enter ?_; conv => whnf) | (refine DrawP.range (by kernel_rfl) ?_; conv => whnf) | (refine BuildP.frz ⟨rfl, ?_⟩; conv => whnf) | (refine BoxP.row ?_; conv => whnf) | (refine And.intro Nat.zero_lt_one ?_; conv => whnf) | (refine And.intro (Nat.succ_pos _) ?_; conv => whnf) | (refine call_same (work_ex1) rfl ?_; conv => whnf) | (refine call_same (int_ok (-7)) rfl ?_; conv => whnf) | (refine call_same (int_ok 2) rfl ?_; conv => whnf) | fail
  refine call_le (call_ok oDivide [gInt (-7), gInt 2]) ?_ (by rfl) (by rfl) ?_
  · (iterate 3 ((all_goals try (conv => whnf)); (repeat' first | exact True.intro | (refine And.intro ?_ ?_) | rfl | exact fun _ h => h | exact .inl rfl | exact none_some | exact .inr ⟨rfl, rfl, fun _ _ => rfl⟩ | exact .inr ⟨rfl, rfl, lt1 rfl⟩ | exact .inr ⟨rfl, rfl, lt2 rfl rfl⟩ | exact .inr ⟨rfl, rfl, lt3 rfl rfl rfl⟩ | fail)))
    all_goals trace_state
  conv => whnf
  repeat' first | (refine RegP.enter ?_; conv => whnf) | (refine DrawP.range (by kernel_rfl) ?_; conv => whnf) | (refine BuildP.frz ⟨rfl, ?_⟩; conv => whnf) | (refine BoxP.row ?_; conv => whnf) | (refine And.intro Nat.zero_lt_one ?_; conv => whnf) | (refine And.intro (Nat.succ_pos _) ?_; conv => whnf) | (refine call_same (work_ex2) rfl ?_; conv => whnf) | (refine call_same (text_ok tD) rfl ?_; conv => whnf) | (refine call_same (work_ex3) rfl ?_; conv => whnf) | (refine call_same (text_ok tDA) rfl ?_; conv => whnf) | (refine call_same (int_ok 3) rfl ?_; conv => whnf) | fail
  refine call_le (call_ok oGt [gText tDA, gInt 3]) ?_ (by rfl) (by rfl) ?_
  · (iterate 3 ((all_goals try (conv => whnf)); (repeat' first | exact True.intro | (refine And.intro ?_ ?_) | rfl | exact fun _ h => h | exact .inl rfl | exact none_some | exact .inr ⟨rfl, rfl, fun _ _ => rfl⟩ | exact .inr ⟨rfl, rfl, lt1 rfl⟩ | exact .inr ⟨rfl, rfl, lt2 rfl rfl⟩ | exact .inr ⟨rfl, rfl, lt3 rfl rfl rfl⟩ | fail)))
    all_goals trace_state
  conv => whnf
  repeat' first | (refine RegP.enter ?_; conv => whnf) | (refine DrawP.range (by kernel_rfl) ?_; conv => whnf) | (refine BuildP.frz ⟨rfl, ?_⟩; conv => whnf) | (refine BoxP.row ?_; conv => whnf) | (refine And.intro Nat.zero_lt_one ?_; conv => whnf) | (refine And.intro (Nat.succ_pos _) ?_; conv => whnf) | (refine call_same (text_ok tBig) rfl ?_; conv => whnf) | (refine call_same (int_ok 1) rfl ?_; conv => whnf) | (refine call_same (int_ok 0) rfl ?_; conv => whnf) | fail
  refine call_le (call_ok oDivide [gInt 1, gInt 0]) ?_ (by rfl) (by rfl) ?_
  · (iterate 3 ((all_goals try (conv => whnf)); (repeat' first | exact True.intro | (refine And.intro ?_ ?_) | rfl | exact fun _ h => h | exact .inl rfl | exact none_some | exact .inr ⟨rfl, rfl, fun _ _ => rfl⟩ | exact .inr ⟨rfl, rfl, lt1 rfl⟩ | exact .inr ⟨rfl, rfl, lt2 rfl rfl⟩ | exact .inr ⟨rfl, rfl, lt3 rfl rfl rfl⟩ | fail)))
    all_goals trace_state
  conv => whnf
  repeat' first | (refine RegP.enter ?_; conv => whnf) | (refine DrawP.range (by kernel_rfl) ?_; conv => whnf) | (refine BuildP.frz ⟨rfl, ?_⟩; conv => whnf) | (refine BoxP.row ?_; conv => whnf) | (refine And.intro Nat.zero_lt_one ?_; conv => whnf) | (refine And.intro (Nat.succ_pos _) ?_; conv => whnf) | fail
  refine call_le (call_ok oCond [gCall oGt [gText tDA, gInt 3], gText tBig, gCall oDivide [gInt 1, gInt 0]]) ?_ (by rfl) (by rfl) ?_
  · (iterate 3 ((all_goals try (conv => whnf)); (repeat' first | exact True.intro | (refine And.intro ?_ ?_) | rfl | exact fun _ h => h | exact .inl rfl | exact none_some | exact .inr ⟨rfl, rfl, fun _ _ => rfl⟩ | exact .inr ⟨rfl, rfl, lt1 rfl⟩ | exact .inr ⟨rfl, rfl, lt2 rfl rfl⟩ | exact .inr ⟨rfl, rfl, lt3 rfl rfl rfl⟩ | fail)))
    all_goals trace_state
  conv => whnf
  repeat' first | (refine RegP.enter ?_; conv => whnf) | (refine DrawP.range (by kernel_rfl) ?_; conv => whnf) | (refine BuildP.frz ⟨rfl, ?_⟩; conv => whnf) | (refine BoxP.row ?_; conv => whnf) | (refine And.intro Nat.zero_lt_one ?_; conv => whnf) | (refine And.intro (Nat.succ_pos _) ?_; conv => whnf) | (refine call_same (work_ex4) rfl ?_; conv => whnf) | fail
  refine Ent.of_check ?_ rfl
  conv => whnf
  (iterate 3 ((all_goals try (conv => whnf)); (repeat' first | exact True.intro | (refine And.intro ?_ ?_) | rfl | exact fun _ h => h | exact .inl rfl | exact none_some | exact .inr ⟨rfl, rfl, fun _ _ => rfl⟩ | exact .inr ⟨rfl, rfl, lt1 rfl⟩ | exact .inr ⟨rfl, rfl, lt2 rfl rfl⟩ | exact .inr ⟨rfl, rfl, lt3 rfl rfl rfl⟩ | fail)))
end Go.Eng
/- Frozen slices, element by element as others. -/
namespace Go.Eng
theorem call_ent {cx : Cx} {q : Bool} {f : FuncId} {args args0 : List AV} {H : HH} {v : AV} {K KP : AV → HH → Prop} (h : PSpec cx f args0 (.ret v)) (he : EntSL args args0) (hk : K v H) : CallW cx q f args H K KP := by
  cases q
  · exact call_pure h he hk
  · exact call_quiet h he hk
theorem EntSL.len : ∀ {l m : List AV}, EntSL l m → l.length = m.length
  | [], [], _ => rfl
  | [], _ :: _, h => h.elim
  | _ :: _, [], h => h.elim
  | _ :: _, _ :: _, h => congrArg (· + 1) (EntSL.len h.2)
theorem EntSL.get : ∀ {l m : List AV}, EntSL l m → ∀ (i : Nat) (h : i < l.length) (h' : i < m.length), EntS l[i] m[i]
  | _ :: _, _ :: _, h, 0, _, _ => h.1
  | _ :: _, _ :: _, h, i + 1, hi, hi' => EntSL.get h.2 i (Nat.lt_of_succ_lt_succ hi) (Nat.lt_of_succ_lt_succ hi')
theorem EntS.lz {a : AV} {d : Dat} (h : EntS a d.unf) : EntS a (.lz d) := fun w μ F v hv => .lz (h w μ F v hv)
theorem EntS.fsl {c : Option Nat} {sz bs n : Nat} {el el' : Nat → List AV} (h : ∀ i, i < n → EntSL (el i) (el' i)) : EntS (.fsl c sz bs n el) (.fsl none sz bs n el') := by
  intro w μ F v hv
  cases hv with
  | frz hv =>
    cases hv with
    | fsE _ => exact .fsE (fun _ h => by cases h)
    | fs vs h0 hb hc hn hR hl hc' hr =>
      refine .fs vs h0 hb (fun _ h => by cases h) hn hR (fun i hi => (EntSL.len (h i hi)).symm.trans (hl i hi)) hc' (fun i j hi hj => ?_)
      have hj' : j < (el i).length := by rw [EntSL.len (h i hi)]; exact hj
      exact EntSL.get (h i hi) j hj' hj w μ F _ (.frz (hr i j hi hj'))
theorem EntS.nil_gl {sz bs : Nat} {c : Option Nat} {el : Nat → List AV} : EntS (.fsl c sz bs 0 el) (.lz (.gl [])) := by
  intro w μ F v hv
  refine .lz ?_
  cases hv with
  | frz hv =>
    cases hv with
    | fsE _ => exact .fsE (fun _ h => by cases h)
    | fs vs h0 => omega
theorem EntS.nil_gd {sz bs : Nat} {c : Option Nat} {el : Nat → List AV} : EntS (.fsl c sz bs 0 el) (.lz (.gd [])) := by
  intro w μ F v hv
  refine .lz ?_
  cases hv with
  | frz hv =>
    cases hv with
    | fsE _ => exact .fsE (fun _ h => by cases h)
    | fs vs h0 => omega
/-- A value built with no list and no fields. -/
theorem EntSL.cells0 {k n : Int} {t : ByteArray} {sz bs sz' bs' : Nat} {c c' : Option Nat} {el el' : Nat → List AV} : EntSL [.int k, .int n, .str t, .fsl c sz bs 0 el, .fsl c' sz' bs' 0 el'] (GV.mk k n t [] []).cells :=
  ⟨EntS.same rfl, EntS.same rfl, EntS.same rfl, EntS.nil_gl, EntS.nil_gd, trivial⟩
end Go.Eng

/- Eng17: an engine for the program's code, and walks of its functions (Wh Wi Wj). -/
import Derived.Test.YtlcepambcoobgaaGreatDoorEng16
namespace Go.Eng
open Go.Proofs
set_option maxRecDepth 10000
def retDoc : P3 (List (ByteArray × Nd)) → Out
  | .yes xs => .ret (Nd.docm xs).av
  | _ => .ret (.lit .nilIface)
theorem docG_drop {p : List ByteArray → GV → P3 Nd} {names : List ByteArray} {l : List (ByteArray × GV)} {i : Nat} (h : i < l.length) : docG p names (l.drop i) = (match p names (l.getD i default).2 with | .unk => .unk | .no => .no | .yes a => match decide (first0 (l.getD i default).1 = 36) with | true => .no | false => (docG p names (l.drop (i + 1))).map (((l.getD i default).1, a) :: ·)) := by
  have e : l.getD i default = l[i] := by simp [h]
  rw [List.drop_eq_getElem_cons h, e]
  generalize l[i] = f
  obtain ⟨m, g⟩ := f
  rw [docG]; rfl
theorem first_eq {s : ByteArray} : ((((s.data.getD 0 0).toNat : Nat) : Int) == 36) = decide (first0 s = 36) := by
  unfold first0
  rw [Bool.eq_iff_iff]; simp; omega
theorem idfL_p (y : ByteArray × Nd) : idfL (pcells y) = true := by simp [pcells, idfL, idf.idfL, idf, idf_av]
set_option maxHeartbeats 1000000 in
theorem document_ok {p : List ByteArray → GV → P3 Nd} (hp : ParseOk p) (names : List ByteArray) (l : List (ByteArray × GV)) (hg : goodD l = true) (hu : docF p names l ≠ .unk) : PSpec cxA 119 [.lz (.gs names), .lz (.gd l)] (retDoc (docF p names l)) := by
  generalize hr : docF p names l = r at hu
  refine PSpec.of_WC cxA_ok Tryz.func119 rfl Tryz.call119 (Nat.le_of_ble_eq_true rfl) (g := 1) ?_
  conv => whnf
  repeat' first | (refine RegP.enter ?_; conv => whnf) | (refine DrawP.range (by kernel_rfl) ?_; conv => whnf) | (refine BuildP.frz ⟨rfl, ?_⟩; conv => whnf) | (refine BoxP.row ?_; conv => whnf) | (refine And.intro Nat.zero_lt_one ?_; conv => whnf) | (refine And.intro (Nat.succ_pos _) ?_; conv => whnf) | fail
  unfold docF at hr
  refine br (fun hb => ?_) (fun hb => ?_)
  · have : 100 < l.length := by simp at hb; omega
    simp only [decide_eq_true this] at hr
    subst hr
    try rw [hb]
    conv => whnf
    repeat' first | (refine RegP.enter ?_; conv => whnf) | (refine DrawP.range (by kernel_rfl) ?_; conv => whnf) | (refine BuildP.frz ⟨rfl, ?_⟩; conv => whnf) | (refine BoxP.row ?_; conv => whnf) | (refine And.intro Nat.zero_lt_one ?_; conv => whnf) | (refine And.intro (Nat.succ_pos _) ?_; conv => whnf) | fail
    refine Ent.of_check ?_ rfl
    conv => whnf
    (iterate 3 ((all_goals try (conv => whnf)); (repeat' first | exact True.intro | (refine And.intro ?_ ?_) | rfl | exact fun _ h => h | exact .inl rfl | exact none_some | exact .inr ⟨rfl, rfl, fun _ _ => rfl⟩ | exact .inr ⟨rfl, rfl, lt1 rfl⟩ | exact .inr ⟨rfl, rfl, lt2 rfl rfl⟩ | exact .inr ⟨rfl, rfl, lt3 rfl rfl rfl⟩ | fail)))
  have : ¬ 100 < l.length := by simp at hb; omega
  simp only [decide_eq_false this] at hr
  replace hr : docG p names l = r := hr
  try rw [hb]
  conv => whnf
  repeat' first | (refine RegP.enter ?_; conv => whnf) | (refine DrawP.range (by kernel_rfl) ?_; conv => whnf) | (refine BuildP.frz ⟨rfl, ?_⟩; conv => whnf) | (refine BoxP.row ?_; conv => whnf) | (refine And.intro Nat.zero_lt_one ?_; conv => whnf) | (refine And.intro (Nat.succ_pos _) ?_; conv => whnf) | fail
  refine ⟨2, {q : List (ByteArray × Nd) // q.length ≤ l.length ∧ r = (docG p names (l.drop q.length)).map (q ++ ·)}, fun i => ([(0, .lz (.gs names)), (5, .row (2,0,0) 0 i.1.length none), (12, .lz (.gd l)), (13, .int l.length), (14, .int i.1.length)], [((2,0,0), .cells 2 32 (i.1.map pcells))]), fun i => l.length - i.1.length, ⟨⟨[], Nat.zero_le _, by rw [← hr]; show docG p names l = (docG p names l).map _; cases docG p names l <;> rfl⟩, Sub.of_check [((2,0,0), .new 2 32)] ?_ (by repeat' first | exact Gen0.emp | exact Gen0.ofH rfl | refine Gen0.put ?_ (by decide) | refine Gen0.put0 ?_ ⟨_, rfl⟩)⟩, fun ⟨acc, hi, hia⟩ => ?_⟩
  · conv => whnf
    (iterate 3 ((all_goals try (conv => whnf)); (repeat' first | exact True.intro | (refine And.intro ?_ ?_) | rfl | exact fun _ h => h | exact .inl rfl | exact none_some | exact .inr ⟨rfl, rfl, fun _ _ => rfl⟩ | exact .inr ⟨rfl, rfl, lt1 rfl⟩ | exact .inr ⟨rfl, rfl, lt2 rfl rfl⟩ | exact .inr ⟨rfl, rfl, lt3 rfl rfl rfl⟩ | fail)))
  conv => whnf
  refine RegP.go fun hf => ?_
  conv => whnf
  refine br (fun hl => ?_) (fun hl => ?_)
  rotate_left
  · have hge : acc.length = l.length := by
      have : ¬ acc.length < l.length := by simpa using hl
      omega
    rw [hge, List.drop_length] at hia
    have hra : r = .yes acc := by rw [hia]; show P3.yes (acc ++ []) = _; rw [List.append_nil]
    subst hra
    try rw [hl]
    conv => whnf
    repeat' first | (refine RegP.enter ?_; conv => whnf) | (refine DrawP.range (by kernel_rfl) ?_; conv => whnf) | (refine BuildP.frz ⟨rfl, ?_⟩; conv => whnf) | (refine BoxP.row ?_; conv => whnf) | (refine And.intro Nat.zero_lt_one ?_; conv => whnf) | (refine And.intro (Nat.succ_pos _) ?_; conv => whnf) | fail
    refine Ent.of_check ?_ rfl
    conv => whnf
    (iterate 3 ((all_goals try (conv => whnf)); (repeat' first | exact True.intro | (refine And.intro ?_ ?_) | rfl | exact fun _ h => h | exact .inl rfl | exact none_some | exact .inr ⟨rfl, rfl, fun _ _ => rfl⟩ | exact .inr ⟨rfl, rfl, lt1 rfl⟩ | exact .inr ⟨rfl, rfl, lt2 rfl rfl⟩ | exact .inr ⟨rfl, rfl, lt3 rfl rfl rfl⟩ | fail)))
    all_goals first | exact len_map _ _ | exact frz_all idfL_p acc
  have hlt : acc.length < l.length := by simpa using hl
  have hRl := hf.lz 12 _ _ _ _ _ _ rfl rfl
  have hR := le_of_mul (k := 95) hRl
  have hpos := goodD_get hlt hg
  have hpp := hp names (l.getD acc.length default).2 hpos.2
  rw [docG_drop hlt] at hia
  try rw [hl]
  conv => whnf
  repeat' first | (refine RegP.enter ?_; conv => whnf) | (refine DrawP.range (by kernel_rfl) ?_; conv => whnf) | (refine BuildP.frz ⟨rfl, ?_⟩; conv => whnf) | (refine BoxP.row ?_; conv => whnf) | (refine And.intro Nat.zero_lt_one ?_; conv => whnf) | (refine And.intro (Nat.succ_pos _) ?_; conv => whnf) | fail
  refine And.intro (hlt) ?_
  conv => whnf
  refine And.intro (hlt) ?_
  conv => whnf
  repeat' first | (refine RegP.enter ?_; conv => whnf) | (refine DrawP.range (by kernel_rfl) ?_; conv => whnf) | (refine BuildP.frz ⟨rfl, ?_⟩; conv => whnf) | (refine BoxP.row ?_; conv => whnf) | (refine And.intro Nat.zero_lt_one ?_; conv => whnf) | (refine And.intro (Nat.succ_pos _) ?_; conv => whnf) | fail
  cases hx : p names (l.getD acc.length default).2 with
  | unk => rw [hx] at hia; exact absurd hia hu
  | no =>
    rw [hx] at hia
    obtain rfl : r = .no := hia
    refine call_same (hpp.1 hx) rfl ?_
    conv => whnf
    repeat' first | (refine RegP.enter ?_; conv => whnf) | (refine DrawP.range (by kernel_rfl) ?_; conv => whnf) | (refine BuildP.frz ⟨rfl, ?_⟩; conv => whnf) | (refine BoxP.row ?_; conv => whnf) | (refine And.intro Nat.zero_lt_one ?_; conv => whnf) | (refine And.intro (Nat.succ_pos _) ?_; conv => whnf) | fail
    refine Ent.of_check ?_ rfl
    conv => whnf
    (iterate 3 ((all_goals try (conv => whnf)); (repeat' first | exact True.intro | (refine And.intro ?_ ?_) | rfl | exact fun _ h => h | exact .inl rfl | exact none_some | exact .inr ⟨rfl, rfl, fun _ _ => rfl⟩ | exact .inr ⟨rfl, rfl, lt1 rfl⟩ | exact .inr ⟨rfl, rfl, lt2 rfl rfl⟩ | exact .inr ⟨rfl, rfl, lt3 rfl rfl rfl⟩ | fail)))
  | yes x =>
    rw [hx] at hia
    refine call_same (hpp.2 x hx) rfl ?_
    conv => whnf
    refine RegP.enter ?_
    conv => whnf
    refine And.intro (hpos.1) ?_
    conv => whnf
    rw [first_eq]
    cases hd : decide (first0 (l.getD acc.length default).1 = 36)
    rotate_left
    · rw [hd] at hia
      obtain rfl : r = .no := hia
      conv => whnf
      repeat' first | (refine RegP.enter ?_; conv => whnf) | (refine DrawP.range (by kernel_rfl) ?_; conv => whnf) | (refine BuildP.frz ⟨rfl, ?_⟩; conv => whnf) | (refine BoxP.row ?_; conv => whnf) | (refine And.intro Nat.zero_lt_one ?_; conv => whnf) | (refine And.intro (Nat.succ_pos _) ?_; conv => whnf) | fail
      refine Ent.of_check ?_ rfl
      conv => whnf
      (iterate 3 ((all_goals try (conv => whnf)); (repeat' first | exact True.intro | (refine And.intro ?_ ?_) | rfl | exact fun _ h => h | exact .inl rfl | exact none_some | exact .inr ⟨rfl, rfl, fun _ _ => rfl⟩ | exact .inr ⟨rfl, rfl, lt1 rfl⟩ | exact .inr ⟨rfl, rfl, lt2 rfl rfl⟩ | exact .inr ⟨rfl, rfl, lt3 rfl rfl rfl⟩ | fail)))
    rw [hd] at hia
    conv => whnf
    refine RegP.enter ?_
    conv => whnf
    refine BuildP.row ?_
    conv => whnf
    refine AppP.grow ⟨⟨by simp, ?_⟩, ?_⟩
    · exact Nat.le_trans (Nat.mul_le_mul hlt (by decide)) hRl
    conv => whnf
    repeat' first | (refine RegP.enter ?_; conv => whnf) | (refine DrawP.range (by kernel_rfl) ?_; conv => whnf) | (refine BuildP.frz ⟨rfl, ?_⟩; conv => whnf) | (refine BoxP.row ?_; conv => whnf) | (refine And.intro Nat.zero_lt_one ?_; conv => whnf) | (refine And.intro (Nat.succ_pos _) ?_; conv => whnf) | fail
    refine ⟨⟨acc ++ [((l.getD acc.length default).1, x)], by simp; omega, by rw [hia, List.length_append]; show P3.map _ (P3.map _ _) = _; rw [P3.map_map]; congr 1; funext y; simp⟩, (by show l.length - (acc ++ [_]).length < l.length - acc.length; simp; omega), Sub.of_check [((2,0,0), .old false (2,36,0))] ?_ (by repeat' first | exact Gen0.emp | exact Gen0.ofH rfl | refine Gen0.put ?_ (by decide) | refine Gen0.put0 ?_ ⟨_, rfl⟩)⟩
    conv => whnf
    (iterate 3 ((all_goals try (conv => whnf)); (repeat' first | exact True.intro | (refine And.intro ?_ ?_) | rfl | exact fun _ h => h | exact .inl rfl | exact none_some | exact .inr ⟨rfl, rfl, fun _ _ => rfl⟩ | exact .inr ⟨rfl, rfl, lt1 rfl⟩ | exact .inr ⟨rfl, rfl, lt2 rfl rfl⟩ | exact .inr ⟨rfl, rfl, lt3 rfl rfl rfl⟩ | fail)))
    all_goals first | (show acc.length + 1 = (acc ++ [_]).length; simp) | exact (wrap_succ hlt hR).trans (by simp) | exact snoc_map pcells acc ((l.getD acc.length default).1, x) | (intro e he; obtain ⟨y, _, rfl⟩ := List.mem_map.1 he; exact idfL_p y)
/-- What arity answers. -/
def arOut (op : ByteArray) : List AV := match arityM op with | some (a, b) => [.int a, .int b, .bool true] | none => [.int 0, .int 0, .bool false]
set_option maxHeartbeats 8000000 in
theorem arity_ok (op : ByteArray) : PSpec cxA 179 [.str op] (.ret (.tup (arOut op))) := by
  generalize hr : arOut op = r
  refine PSpec.of_WC cxA_ok Tryz.func179 rfl Tryz.call179 (Nat.le_of_ble_eq_true rfl) (g := 1) ?_
  conv => whnf
  repeat' first | (refine RegP.enter ?_; conv => whnf) | (refine DrawP.range (by kernel_rfl) ?_; conv => whnf) | (refine BuildP.frz ⟨rfl, ?_⟩; conv => whnf) | (refine BoxP.row ?_; conv => whnf) | (refine And.intro Nat.zero_lt_one ?_; conv => whnf) | (refine And.intro (Nat.succ_pos _) ?_; conv => whnf) | (refine br (fun hb => ?_) (fun hb => ?_) <;> (try rw [hb]) <;> (conv => whnf)) | fail
  all_goals (simp only [arOut, arityM, memB, *, Bool.true_or, Bool.or_true, Bool.false_or, Bool.or_false] at hr)
  all_goals subst hr
  all_goals (refine Ent.of_check ?_ rfl)
  all_goals (conv => whnf)
  (iterate 3 ((all_goals try (conv => whnf)); (repeat' first | exact True.intro | (refine And.intro ?_ ?_) | rfl | exact fun _ h => h | exact .inl rfl | exact none_some | exact .inr ⟨rfl, rfl, fun _ _ => rfl⟩ | exact .inr ⟨rfl, rfl, lt1 rfl⟩ | exact .inr ⟨rfl, rfl, lt2 rfl rfl⟩ | exact .inr ⟨rfl, rfl, lt3 rfl rfl rfl⟩ | fail)))
end Go.Eng
namespace Go.Eng
open Go.Proofs
set_option maxRecDepth 10000
def retNd : P3 Nd → Out
  | .yes x => .ret x.av
  | _ => .ret (.lit .nilIface)
theorem goodM_list {g : GV} (h : goodM g = true) : goodL g.list = true := by
  obtain ⟨k, n, t, l, d⟩ := g
  simp only [goodM, Bool.and_eq_true] at h; exact h.1.2
theorem goodM_doc {g : GV} (h : goodM g = true) : goodD g.doc = true := by
  obtain ⟨k, n, t, l, d⟩ := g
  simp only [goodM, Bool.and_eq_true] at h; exact h.2
theorem goodM_text {g : GV} (h : goodM g = true) : g.text.size ≤ 65536 := by
  obtain ⟨k, n, t, l, d⟩ := g
  simp only [goodM, Bool.and_eq_true, decide_eq_true_eq] at h; exact h.1.1
theorem ParseOk.of {p : List ByteArray → GV → P3 Nd} (h : ∀ names g, goodM g = true → p names g ≠ .unk → PSpec cxA 63 [.lz (.gs names), .agg g.cells] (retNd (p names g))) : ParseOk p := by
  intro names g hg
  refine ⟨fun hx => ?_, fun x hx => ?_⟩
  · have := h names g hg (by rw [hx]; exact fun e => by cases e)
    rw [hx] at this; exact this
  · have := h names g hg (by rw [hx]; exact fun e => by cases e)
    rw [hx] at this; exact this
theorem argsOf_t {v : GV} (h : (v.kind == 6) = true) : argsOf v = v.list := by unfold argsOf; rw [h]
theorem argsOf_f {v : GV} (h : (v.kind == 6) = false) : argsOf v = [v] := by unfold argsOf; rw [h]
set_option maxHeartbeats 4000000 in
theorem pcall_ok {p : List ByteArray → GV → P3 Nd} (hp : ParseOk p) (names : List ByteArray) (op : ByteArray) (v : GV) (hg : goodM v = true) (hu : callF p names op v ≠ .unk) : PSpec cxA 118 [.lz (.gs names), .str op, .agg v.cells] (retNd (callF p names op v)) := by
  generalize hr : callF p names op v = r at hu
  unfold callF at hr
  refine PSpec.of_WC cxA_ok Tryz.func118 rfl Tryz.call118 (Nat.le_of_ble_eq_true rfl) (g := 1) ?_
  conv => whnf
  refine RegP.enter ?_
  conv => whnf
  refine BoxP.frz ⟨rfl, ?_⟩
  conv => whnf
  repeat' first | (refine RegP.enter ?_; conv => whnf) | (refine DrawP.range (by kernel_rfl) ?_; conv => whnf) | (refine BuildP.frz ⟨rfl, ?_⟩; conv => whnf) | (refine BoxP.row ?_; conv => whnf) | (refine And.intro Nat.zero_lt_one ?_; conv => whnf) | (refine And.intro (Nat.succ_pos _) ?_; conv => whnf) | fail
  refine br (fun hb => ?_) (fun hb => ?_)
  · simp only [hb] at hr
    subst hr
    try rw [hb]
    conv => whnf
    repeat' first | (refine RegP.enter ?_; conv => whnf) | (refine DrawP.range (by kernel_rfl) ?_; conv => whnf) | (refine BuildP.frz ⟨rfl, ?_⟩; conv => whnf) | (refine BoxP.row ?_; conv => whnf) | (refine And.intro Nat.zero_lt_one ?_; conv => whnf) | (refine And.intro (Nat.succ_pos _) ?_; conv => whnf) | fail
    refine Ent.of_check ?_ rfl
    conv => whnf
    (iterate 3 ((all_goals try (conv => whnf)); (repeat' first | exact True.intro | (refine And.intro ?_ ?_) | rfl | exact fun _ h => h | exact .inl rfl | exact none_some | exact .inr ⟨rfl, rfl, fun _ _ => rfl⟩ | exact .inr ⟨rfl, rfl, lt1 rfl⟩ | exact .inr ⟨rfl, rfl, lt2 rfl rfl⟩ | exact .inr ⟨rfl, rfl, lt3 rfl rfl rfl⟩ | fail)))
  have e1 : decide (op = oLiteral) = false := hb
  simp only [e1] at hr
  try rw [hb]
  conv => whnf
  repeat' first | (refine RegP.enter ?_; conv => whnf) | (refine DrawP.range (by kernel_rfl) ?_; conv => whnf) | (refine BuildP.frz ⟨rfl, ?_⟩; conv => whnf) | (refine BoxP.row ?_; conv => whnf) | (refine And.intro Nat.zero_lt_one ?_; conv => whnf) | (refine And.intro (Nat.succ_pos _) ?_; conv => whnf) | fail
  refine br (fun hb2 => ?_) (fun hb2 => ?_)
  · have e2 : decide (op = oMap) = true := hb2
    simp only [e2, Bool.true_or] at hr
    exact absurd hr.symm hu
  try rw [hb2]
  conv => whnf
  repeat' first | (refine RegP.enter ?_; conv => whnf) | (refine DrawP.range (by kernel_rfl) ?_; conv => whnf) | (refine BuildP.frz ⟨rfl, ?_⟩; conv => whnf) | (refine BoxP.row ?_; conv => whnf) | (refine And.intro Nat.zero_lt_one ?_; conv => whnf) | (refine And.intro (Nat.succ_pos _) ?_; conv => whnf) | fail
  refine br (fun hb3 => ?_) (fun hb3 => ?_)
  · have e2 : decide (op = oFilter) = true := hb3
    simp only [e2, Bool.true_or, Bool.or_true] at hr
    exact absurd hr.symm hu
  try rw [hb3]
  conv => whnf
  repeat' first | (refine RegP.enter ?_; conv => whnf) | (refine DrawP.range (by kernel_rfl) ?_; conv => whnf) | (refine BuildP.frz ⟨rfl, ?_⟩; conv => whnf) | (refine BoxP.row ?_; conv => whnf) | (refine And.intro Nat.zero_lt_one ?_; conv => whnf) | (refine And.intro (Nat.succ_pos _) ?_; conv => whnf) | fail
  refine br (fun hb4 => ?_) (fun hb4 => ?_)
  · have e2 : decide (op = oReduce) = true := hb4
    simp only [e2, Bool.true_or, Bool.or_true] at hr
    exact absurd hr.symm hu
  have e2 : decide (op = oMap) = false := hb2
  have e3 : decide (op = oFilter) = false := hb3
  have e4 : decide (op = oReduce) = false := hb4
  simp only [e2, e3, e4, Bool.false_or] at hr
  try rw [hb4]
  conv => whnf
  repeat' first | (refine RegP.enter ?_; conv => whnf) | (refine DrawP.range (by kernel_rfl) ?_; conv => whnf) | (refine BuildP.frz ⟨rfl, ?_⟩; conv => whnf) | (refine BoxP.row ?_; conv => whnf) | (refine And.intro Nat.zero_lt_one ?_; conv => whnf) | (refine And.intro (Nat.succ_pos _) ?_; conv => whnf) | fail
  have har := arity_ok op
  have hgL : goodL (argsOf v) = true := by
    unfold argsOf
    cases v.kind == 6
    · simp [goodL, hg]
    · exact goodM_list hg
  have hall := all_ok hp names (argsOf v) hgL
  cases hk : (v.kind == 6)
  case' false => have hA := argsOf_f hk
  case' true => have hA := argsOf_t hk
  all_goals cases hx : allF p names (argsOf v)
  case' false.unk => rw [hx] at hr; exact absurd hr.symm hu
  case' true.unk => rw [hx] at hr; exact absurd hr.symm hu
  all_goals
    rw [hx] at hr hall
    replace hall := hall (fun e => by cases e)
    rw [hA] at hall
    cases har2 : arityM op
  all_goals
    rw [arOut, har2] at har
    rw [har2] at hr
    refine call_same (har) rfl ?_
    conv => whnf
    repeat' first | (refine RegP.enter ?_; conv => whnf) | (refine DrawP.range (by kernel_rfl) ?_; conv => whnf) | (refine BuildP.frz ⟨rfl, ?_⟩; conv => whnf) | (refine BoxP.row ?_; conv => whnf) | (refine And.intro Nat.zero_lt_one ?_; conv => whnf) | (refine And.intro (Nat.succ_pos _) ?_; conv => whnf) | fail
    try rw [hk]
    conv => whnf
    repeat' first | (refine RegP.enter ?_; conv => whnf) | (refine DrawP.range (by kernel_rfl) ?_; conv => whnf) | (refine BuildP.frz ⟨rfl, ?_⟩; conv => whnf) | (refine BoxP.row ?_; conv => whnf) | (refine And.intro Nat.zero_lt_one ?_; conv => whnf) | (refine And.intro (Nat.succ_pos _) ?_; conv => whnf) | fail
    refine call_le (hall) ?_ (by rfl) (by rfl) ?_
    · (iterate 3 ((all_goals try (conv => whnf)); (repeat' first | exact True.intro | (refine And.intro ?_ ?_) | rfl | exact fun _ h => h | exact .inl rfl | exact none_some | exact .inr ⟨rfl, rfl, fun _ _ => rfl⟩ | exact .inr ⟨rfl, rfl, lt1 rfl⟩ | exact .inr ⟨rfl, rfl, lt2 rfl rfl⟩ | exact .inr ⟨rfl, rfl, lt3 rfl rfl rfl⟩ | fail)))
    conv => whnf
    repeat' first | (refine RegP.enter ?_; conv => whnf) | (refine DrawP.range (by kernel_rfl) ?_; conv => whnf) | (refine BuildP.frz ⟨rfl, ?_⟩; conv => whnf) | (refine BoxP.row ?_; conv => whnf) | (refine And.intro Nat.zero_lt_one ?_; conv => whnf) | (refine And.intro (Nat.succ_pos _) ?_; conv => whnf) | fail
  all_goals try ((try subst hr); (refine Ent.of_check ?_ rfl); (conv => whnf); ((iterate 3 ((all_goals try (conv => whnf)); (repeat' first | exact True.intro | (refine And.intro ?_ ?_) | rfl | exact fun _ h => h | exact .inl rfl | exact none_some | exact .inr ⟨rfl, rfl, fun _ _ => rfl⟩ | exact .inr ⟨rfl, rfl, lt1 rfl⟩ | exact .inr ⟨rfl, rfl, lt2 rfl rfl⟩ | exact .inr ⟨rfl, rfl, lt3 rfl rfl rfl⟩ | fail)))); done)
  all_goals
    rename_i xs ab
    obtain ⟨a, b⟩ := ab
    have hr2 : (match decide (xs.length < a) || decide (b < xs.length) with | true => P3.no | false => P3.yes (Nd.call op xs)) = r := hr
    refine br (fun h1 => ?_) (fun h1 => ?_)
    · have : xs.length < a := by simp at h1; omega
      simp only [decide_eq_true this, Bool.true_or] at hr2
      subst hr2
      try rw [h1]
      conv => whnf
      repeat' first | (refine RegP.enter ?_; conv => whnf) | (refine DrawP.range (by kernel_rfl) ?_; conv => whnf) | (refine BuildP.frz ⟨rfl, ?_⟩; conv => whnf) | (refine BoxP.row ?_; conv => whnf) | (refine And.intro Nat.zero_lt_one ?_; conv => whnf) | (refine And.intro (Nat.succ_pos _) ?_; conv => whnf) | fail
      refine Ent.of_check ?_ rfl
      conv => whnf
      (iterate 3 ((all_goals try (conv => whnf)); (repeat' first | exact True.intro | (refine And.intro ?_ ?_) | rfl | exact fun _ h => h | exact .inl rfl | exact none_some | exact .inr ⟨rfl, rfl, fun _ _ => rfl⟩ | exact .inr ⟨rfl, rfl, lt1 rfl⟩ | exact .inr ⟨rfl, rfl, lt2 rfl rfl⟩ | exact .inr ⟨rfl, rfl, lt3 rfl rfl rfl⟩ | fail)))
    try rw [h1]
    conv => whnf
    repeat' first | (refine RegP.enter ?_; conv => whnf) | (refine DrawP.range (by kernel_rfl) ?_; conv => whnf) | (refine BuildP.frz ⟨rfl, ?_⟩; conv => whnf) | (refine BoxP.row ?_; conv => whnf) | (refine And.intro Nat.zero_lt_one ?_; conv => whnf) | (refine And.intro (Nat.succ_pos _) ?_; conv => whnf) | fail
    have e5 : ¬ xs.length < a := by simp at h1; omega
    refine br (fun h2 => ?_) (fun h2 => ?_)
    · have : b < xs.length := by simp at h2; omega
      simp only [decide_eq_true this, Bool.or_true] at hr2
      subst hr2
      try rw [h2]
      conv => whnf
      repeat' first | (refine RegP.enter ?_; conv => whnf) | (refine DrawP.range (by kernel_rfl) ?_; conv => whnf) | (refine BuildP.frz ⟨rfl, ?_⟩; conv => whnf) | (refine BoxP.row ?_; conv => whnf) | (refine And.intro Nat.zero_lt_one ?_; conv => whnf) | (refine And.intro (Nat.succ_pos _) ?_; conv => whnf) | fail
      refine Ent.of_check ?_ rfl
      conv => whnf
      (iterate 3 ((all_goals try (conv => whnf)); (repeat' first | exact True.intro | (refine And.intro ?_ ?_) | rfl | exact fun _ h => h | exact .inl rfl | exact none_some | exact .inr ⟨rfl, rfl, fun _ _ => rfl⟩ | exact .inr ⟨rfl, rfl, lt1 rfl⟩ | exact .inr ⟨rfl, rfl, lt2 rfl rfl⟩ | exact .inr ⟨rfl, rfl, lt3 rfl rfl rfl⟩ | fail)))
    try rw [h2]
    conv => whnf
    repeat' first | (refine RegP.enter ?_; conv => whnf) | (refine DrawP.range (by kernel_rfl) ?_; conv => whnf) | (refine BuildP.frz ⟨rfl, ?_⟩; conv => whnf) | (refine BoxP.row ?_; conv => whnf) | (refine And.intro Nat.zero_lt_one ?_; conv => whnf) | (refine And.intro (Nat.succ_pos _) ?_; conv => whnf) | fail
    have e6 : ¬ b < xs.length := by simp at h2; omega
    simp only [decide_eq_false e5, decide_eq_false e6, Bool.or_false] at hr2
    subst hr2
    refine Ent.of_check ?_ rfl
    conv => whnf
    (iterate 3 ((all_goals try (conv => whnf)); (repeat' first | exact True.intro | (refine And.intro ?_ ?_) | rfl | exact fun _ h => h | exact .inl rfl | exact none_some | exact .inr ⟨rfl, rfl, fun _ _ => rfl⟩ | exact .inr ⟨rfl, rfl, lt1 rfl⟩ | exact .inr ⟨rfl, rfl, lt2 rfl rfl⟩ | exact .inr ⟨rfl, rfl, lt3 rfl rfl rfl⟩ | fail)))
end Go.Eng
namespace Go.Eng
open Go.Proofs
set_option maxRecDepth 10000
theorem splitM_ne {s : ByteArray} {l : List ByteArray} (h : splitM s = some l) : ∃ p ps, l = p :: ps := by
  have hl := Lib.splitB_all ⟨#[46]⟩ (by decide) 0 _ s rfl
  unfold splitM at h
  split at h
  · cases h
  split at h
  · cases h
    match hL : Lib.splitB ⟨#[46]⟩ 0 (Lib.countB s ⟨#[46]⟩) s with
    | [] => rw [hL] at hl; simp at hl
    | p :: ps => exact ⟨p, ps, rfl⟩
  · cases h
theorem prefix_size {s : ByteArray} {p : List UInt8} (h : Lib.hasPrefix s.data.toList p = true) : p.length ≤ s.size := by
  unfold Lib.hasPrefix at h
  have := List.IsPrefix.length_le (List.isPrefixOf_iff_prefix.1 h)
  simpa using this
set_option maxHeartbeats 4000000 in
theorem parse_spec : ∀ n : Nat, ParseOk (parseF n) := by
  intro n
  induction n with
  | zero => exact ParseOk.of fun names g hg hu => absurd rfl hu
  | succ n ih =>
  refine ParseOk.of fun names g hg hu => ?_
  generalize hr : parseF (n + 1) names g = r at hu
  unfold parseF at hr
  have hgt := goodM_text hg
  refine PSpec.of_WC cxA_ok Tryz.func63 rfl Tryz.call63 (Nat.le_of_ble_eq_true rfl) (g := 1) ?_
  conv => whnf
  refine RegP.enter ?_
  conv => whnf
  refine BoxP.frz ⟨rfl, ?_⟩
  conv => whnf
  repeat' first | (refine RegP.enter ?_; conv => whnf) | (refine DrawP.range (by kernel_rfl) ?_; conv => whnf) | (refine BuildP.frz ⟨rfl, ?_⟩; conv => whnf) | (refine BoxP.row ?_; conv => whnf) | (refine And.intro Nat.zero_lt_one ?_; conv => whnf) | (refine And.intro (Nat.succ_pos _) ?_; conv => whnf) | fail
  cases h4 : g.kind == 4
  rotate_left
  · conv => whnf
    repeat' first | (refine RegP.enter ?_; conv => whnf) | (refine DrawP.range (by kernel_rfl) ?_; conv => whnf) | (refine BuildP.frz ⟨rfl, ?_⟩; conv => whnf) | (refine BoxP.row ?_; conv => whnf) | (refine And.intro Nat.zero_lt_one ?_; conv => whnf) | (refine And.intro (Nat.succ_pos _) ?_; conv => whnf) | (refine call_same (hasPrefix_ok _ _) rfl ?_; conv => whnf) | fail
    cases hd2 : dol2 g.text
    rotate_left
    · simp only [h4, hd2, Bool.and_self] at hr
      rw [show Lib.hasPrefix g.text.data.toList _ = true from hd2]
      conv => whnf
      repeat' first | (refine RegP.enter ?_; conv => whnf) | (refine DrawP.range (by kernel_rfl) ?_; conv => whnf) | (refine BuildP.frz ⟨rfl, ?_⟩; conv => whnf) | (refine BoxP.row ?_; conv => whnf) | (refine And.intro Nat.zero_lt_one ?_; conv => whnf) | (refine And.intro (Nat.succ_pos _) ?_; conv => whnf) | fail
      have h2 := prefix_size hd2
      refine And.intro h2 ?_
      conv => whnf
      have hsz : (g.text.extract 2 g.text.size).size < 4294967281 := by rw [ByteArray.size_extract]; omega
      have hps := psplit_ok (g.text.extract 2 g.text.size) hsz
      cases hsp : splitM (g.text.extract 2 g.text.size) with
      | none =>
        rw [hsp] at hps hr
        refine call_same (hps) rfl ?_
        conv => whnf
        repeat' first | (refine RegP.enter ?_; conv => whnf) | (refine DrawP.range (by kernel_rfl) ?_; conv => whnf) | (refine BuildP.frz ⟨rfl, ?_⟩; conv => whnf) | (refine BoxP.row ?_; conv => whnf) | (refine And.intro Nat.zero_lt_one ?_; conv => whnf) | (refine And.intro (Nat.succ_pos _) ?_; conv => whnf) | fail
        all_goals try ((try subst hr); (refine Ent.of_check ?_ rfl); (conv => whnf); ((iterate 3 ((all_goals try (conv => whnf)); (repeat' first | exact True.intro | (refine And.intro ?_ ?_) | rfl | exact fun _ h => h | exact .inl rfl | exact none_some | exact .inr ⟨rfl, rfl, fun _ _ => rfl⟩ | exact .inr ⟨rfl, rfl, lt1 rfl⟩ | exact .inr ⟨rfl, rfl, lt2 rfl rfl⟩ | exact .inr ⟨rfl, rfl, lt3 rfl rfl rfl⟩ | fail)))); done)
      | some l =>
        obtain ⟨q, ps, rfl⟩ := splitM_ne hsp
        rw [hsp] at hps hr
        replace hr : (match decide (q = sRoot) || memB q names with | true => P3.yes (Nd.var q ps) | false => .no) = r := hr
        refine call_same (hps) rfl ?_
        conv => whnf
        repeat' first | (refine RegP.enter ?_; conv => whnf) | (refine DrawP.range (by kernel_rfl) ?_; conv => whnf) | (refine BuildP.frz ⟨rfl, ?_⟩; conv => whnf) | (refine BoxP.row ?_; conv => whnf) | (refine And.intro Nat.zero_lt_one ?_; conv => whnf) | (refine And.intro (Nat.succ_pos _) ?_; conv => whnf) | fail
        have tail : (q :: ps).length - (0 + 1) = 0 ∨ 1 = 1 ∧ 16 = 16 ∧ ∀ (i : Nat), i < (q :: ps).length - (0 + 1) → (fun i => (fun i => [AV.lit (Value.string ((q :: ps).getD i default))]) (0 + 1 + i)) i = (fun i => [AV.lit (Value.string (ps.getD i default))]) i :=
          .inr ⟨rfl, rfl, fun i _ => by show [AV.lit (Value.string ((q :: ps).getD (0 + 1 + i) default))] = _; rw [show 0 + 1 + i = i + 1 by omega]; rfl⟩
        cases hq : decide (q = sRoot)
        rotate_left
        · rw [show decide ((q :: ps).getD 0 default = _) = true from hq]
          simp only [hq, Bool.true_or] at hr
          subst hr
          conv => whnf
          repeat' first | (refine RegP.enter ?_; conv => whnf) | (refine DrawP.range (by kernel_rfl) ?_; conv => whnf) | (refine BuildP.frz ⟨rfl, ?_⟩; conv => whnf) | (refine BoxP.row ?_; conv => whnf) | (refine And.intro Nat.zero_lt_one ?_; conv => whnf) | (refine And.intro (Nat.succ_pos _) ?_; conv => whnf) | fail
          refine Ent.of_check ?_ rfl
          conv => whnf
          (iterate 3 ((all_goals try (conv => whnf)); (repeat' first | exact True.intro | (refine And.intro ?_ ?_) | rfl | exact fun _ h => h | exact .inl rfl | exact none_some | exact .inr ⟨rfl, rfl, fun _ _ => rfl⟩ | exact .inr ⟨rfl, rfl, lt1 rfl⟩ | exact .inr ⟨rfl, rfl, lt2 rfl rfl⟩ | exact .inr ⟨rfl, rfl, lt3 rfl rfl rfl⟩ | fail)))
          exact tail
        · rw [show decide ((q :: ps).getD 0 default = _) = false from hq]
          simp only [hq, Bool.false_or] at hr
          conv => whnf
          repeat' first | (refine RegP.enter ?_; conv => whnf) | (refine DrawP.range (by kernel_rfl) ?_; conv => whnf) | (refine BuildP.frz ⟨rfl, ?_⟩; conv => whnf) | (refine BoxP.row ?_; conv => whnf) | (refine And.intro Nat.zero_lt_one ?_; conv => whnf) | (refine And.intro (Nat.succ_pos _) ?_; conv => whnf) | fail
          refine call_same (containsN_ok names q) rfl ?_
          conv => whnf
          cases hm : memB q names
          · rw [hm] at hr
            conv => whnf
            repeat' first | (refine RegP.enter ?_; conv => whnf) | (refine DrawP.range (by kernel_rfl) ?_; conv => whnf) | (refine BuildP.frz ⟨rfl, ?_⟩; conv => whnf) | (refine BoxP.row ?_; conv => whnf) | (refine And.intro Nat.zero_lt_one ?_; conv => whnf) | (refine And.intro (Nat.succ_pos _) ?_; conv => whnf) | fail
            all_goals try ((try subst hr); (refine Ent.of_check ?_ rfl); (conv => whnf); ((iterate 3 ((all_goals try (conv => whnf)); (repeat' first | exact True.intro | (refine And.intro ?_ ?_) | rfl | exact fun _ h => h | exact .inl rfl | exact none_some | exact .inr ⟨rfl, rfl, fun _ _ => rfl⟩ | exact .inr ⟨rfl, rfl, lt1 rfl⟩ | exact .inr ⟨rfl, rfl, lt2 rfl rfl⟩ | exact .inr ⟨rfl, rfl, lt3 rfl rfl rfl⟩ | fail)))); done)
          · rw [hm] at hr
            conv => whnf
            repeat' first | (refine RegP.enter ?_; conv => whnf) | (refine DrawP.range (by kernel_rfl) ?_; conv => whnf) | (refine BuildP.frz ⟨rfl, ?_⟩; conv => whnf) | (refine BoxP.row ?_; conv => whnf) | (refine And.intro Nat.zero_lt_one ?_; conv => whnf) | (refine And.intro (Nat.succ_pos _) ?_; conv => whnf) | fail
            subst hr
            refine Ent.of_check ?_ rfl
            conv => whnf
            (iterate 3 ((all_goals try (conv => whnf)); (repeat' first | exact True.intro | (refine And.intro ?_ ?_) | rfl | exact fun _ h => h | exact .inl rfl | exact none_some | exact .inr ⟨rfl, rfl, fun _ _ => rfl⟩ | exact .inr ⟨rfl, rfl, lt1 rfl⟩ | exact .inr ⟨rfl, rfl, lt2 rfl rfl⟩ | exact .inr ⟨rfl, rfl, lt3 rfl rfl rfl⟩ | fail)))
            exact tail
    · simp only [h4, hd2, Bool.true_and] at hr
      rw [show Lib.hasPrefix g.text.data.toList _ = false from hd2]
      conv => whnf
      repeat' first | (refine RegP.enter ?_; conv => whnf) | (refine DrawP.range (by kernel_rfl) ?_; conv => whnf) | (refine BuildP.frz ⟨rfl, ?_⟩; conv => whnf) | (refine BoxP.row ?_; conv => whnf) | (refine And.intro Nat.zero_lt_one ?_; conv => whnf) | (refine And.intro (Nat.succ_pos _) ?_; conv => whnf) | fail
      rw [h4]
      conv => whnf
      repeat' first | (refine RegP.enter ?_; conv => whnf) | (refine DrawP.range (by kernel_rfl) ?_; conv => whnf) | (refine BuildP.frz ⟨rfl, ?_⟩; conv => whnf) | (refine BoxP.row ?_; conv => whnf) | (refine And.intro Nat.zero_lt_one ?_; conv => whnf) | (refine And.intro (Nat.succ_pos _) ?_; conv => whnf) | (refine call_same (hasPrefix_ok _ _) rfl ?_; conv => whnf) | fail
      cases hd1 : dol1 g.text
      rotate_left
      · simp only [hd1] at hr
        rw [show Lib.hasPrefix g.text.data.toList _ = true from hd1]
        conv => whnf
        repeat' first | (refine RegP.enter ?_; conv => whnf) | (refine DrawP.range (by kernel_rfl) ?_; conv => whnf) | (refine BuildP.frz ⟨rfl, ?_⟩; conv => whnf) | (refine BoxP.row ?_; conv => whnf) | (refine And.intro Nat.zero_lt_one ?_; conv => whnf) | (refine And.intro (Nat.succ_pos _) ?_; conv => whnf) | fail
        have h2 := prefix_size hd1
        refine And.intro h2 ?_
        conv => whnf
        have hsz : (g.text.extract 1 g.text.size).size < 4294967281 := by rw [ByteArray.size_extract]; omega
        have hps := psplit_ok (g.text.extract 1 g.text.size) hsz
        cases hsp : splitM (g.text.extract 1 g.text.size) with
        | none =>
          rw [hsp] at hps hr
          refine call_same (hps) rfl ?_
          conv => whnf
          repeat' first | (refine RegP.enter ?_; conv => whnf) | (refine DrawP.range (by kernel_rfl) ?_; conv => whnf) | (refine BuildP.frz ⟨rfl, ?_⟩; conv => whnf) | (refine BoxP.row ?_; conv => whnf) | (refine And.intro Nat.zero_lt_one ?_; conv => whnf) | (refine And.intro (Nat.succ_pos _) ?_; conv => whnf) | fail
          all_goals try ((try subst hr); (refine Ent.of_check ?_ rfl); (conv => whnf); ((iterate 3 ((all_goals try (conv => whnf)); (repeat' first | exact True.intro | (refine And.intro ?_ ?_) | rfl | exact fun _ h => h | exact .inl rfl | exact none_some | exact .inr ⟨rfl, rfl, fun _ _ => rfl⟩ | exact .inr ⟨rfl, rfl, lt1 rfl⟩ | exact .inr ⟨rfl, rfl, lt2 rfl rfl⟩ | exact .inr ⟨rfl, rfl, lt3 rfl rfl rfl⟩ | fail)))); done)
        | some l =>
          rw [hsp] at hps hr
          refine call_same (hps) rfl ?_
          conv => whnf
          repeat' first | (refine RegP.enter ?_; conv => whnf) | (refine DrawP.range (by kernel_rfl) ?_; conv => whnf) | (refine BuildP.frz ⟨rfl, ?_⟩; conv => whnf) | (refine BoxP.row ?_; conv => whnf) | (refine And.intro Nat.zero_lt_one ?_; conv => whnf) | (refine And.intro (Nat.succ_pos _) ?_; conv => whnf) | fail
          all_goals try ((try subst hr); (refine Ent.of_check ?_ rfl); (conv => whnf); ((iterate 3 ((all_goals try (conv => whnf)); (repeat' first | exact True.intro | (refine And.intro ?_ ?_) | rfl | exact fun _ h => h | exact .inl rfl | exact none_some | exact .inr ⟨rfl, rfl, fun _ _ => rfl⟩ | exact .inr ⟨rfl, rfl, lt1 rfl⟩ | exact .inr ⟨rfl, rfl, lt2 rfl rfl⟩ | exact .inr ⟨rfl, rfl, lt3 rfl rfl rfl⟩ | fail)))); done)
      · simp only [hd1] at hr
        rw [show Lib.hasPrefix g.text.data.toList _ = false from hd1]
        have hk4 : g.kind = 4 := by simpa using h4
        have h6 : (g.kind == 6) = false := by rw [hk4]; rfl
        have h5 : (g.kind == 5) = false := by rw [hk4]; rfl
        simp only [h6, h5] at hr
        subst hr
        conv => whnf
        repeat' first | (refine RegP.enter ?_; conv => whnf) | (refine DrawP.range (by kernel_rfl) ?_; conv => whnf) | (refine BuildP.frz ⟨rfl, ?_⟩; conv => whnf) | (refine BoxP.row ?_; conv => whnf) | (refine And.intro Nat.zero_lt_one ?_; conv => whnf) | (refine And.intro (Nat.succ_pos _) ?_; conv => whnf) | fail
        rw [h6]
        conv => whnf
        repeat' first | (refine RegP.enter ?_; conv => whnf) | (refine DrawP.range (by kernel_rfl) ?_; conv => whnf) | (refine BuildP.frz ⟨rfl, ?_⟩; conv => whnf) | (refine BoxP.row ?_; conv => whnf) | (refine And.intro Nat.zero_lt_one ?_; conv => whnf) | (refine And.intro (Nat.succ_pos _) ?_; conv => whnf) | fail
        rw [h5]
        conv => whnf
        repeat' first | (refine RegP.enter ?_; conv => whnf) | (refine DrawP.range (by kernel_rfl) ?_; conv => whnf) | (refine BuildP.frz ⟨rfl, ?_⟩; conv => whnf) | (refine BoxP.row ?_; conv => whnf) | (refine And.intro Nat.zero_lt_one ?_; conv => whnf) | (refine And.intro (Nat.succ_pos _) ?_; conv => whnf) | fail
        rw [h5]
        conv => whnf
        repeat' first | (refine RegP.enter ?_; conv => whnf) | (refine DrawP.range (by kernel_rfl) ?_; conv => whnf) | (refine BuildP.frz ⟨rfl, ?_⟩; conv => whnf) | (refine BoxP.row ?_; conv => whnf) | (refine And.intro Nat.zero_lt_one ?_; conv => whnf) | (refine And.intro (Nat.succ_pos _) ?_; conv => whnf) | fail
        refine Ent.of_check ?_ rfl
        conv => whnf
        (iterate 3 ((all_goals try (conv => whnf)); (repeat' first | exact True.intro | (refine And.intro ?_ ?_) | rfl | exact fun _ h => h | exact .inl rfl | exact none_some | exact .inr ⟨rfl, rfl, fun _ _ => rfl⟩ | exact .inr ⟨rfl, rfl, lt1 rfl⟩ | exact .inr ⟨rfl, rfl, lt2 rfl rfl⟩ | exact .inr ⟨rfl, rfl, lt3 rfl rfl rfl⟩ | fail)))
  simp only [h4, Bool.false_and] at hr
  conv => whnf
  repeat' first | (refine RegP.enter ?_; conv => whnf) | (refine DrawP.range (by kernel_rfl) ?_; conv => whnf) | (refine BuildP.frz ⟨rfl, ?_⟩; conv => whnf) | (refine BoxP.row ?_; conv => whnf) | (refine And.intro Nat.zero_lt_one ?_; conv => whnf) | (refine And.intro (Nat.succ_pos _) ?_; conv => whnf) | fail
  rw [h4]
  conv => whnf
  repeat' first | (refine RegP.enter ?_; conv => whnf) | (refine DrawP.range (by kernel_rfl) ?_; conv => whnf) | (refine BuildP.frz ⟨rfl, ?_⟩; conv => whnf) | (refine BoxP.row ?_; conv => whnf) | (refine And.intro Nat.zero_lt_one ?_; conv => whnf) | (refine And.intro (Nat.succ_pos _) ?_; conv => whnf) | fail
  cases h6 : g.kind == 6
  rotate_left
  · simp only [h6] at hr
    conv => whnf
    repeat' first | (refine RegP.enter ?_; conv => whnf) | (refine DrawP.range (by kernel_rfl) ?_; conv => whnf) | (refine BuildP.frz ⟨rfl, ?_⟩; conv => whnf) | (refine BoxP.row ?_; conv => whnf) | (refine And.intro Nat.zero_lt_one ?_; conv => whnf) | (refine And.intro (Nat.succ_pos _) ?_; conv => whnf) | fail
    have hall := all_ok ih names g.list (goodM_list hg)
    cases hx : allF (parseF n) names g.list with
    | unk => rw [hx] at hr; exact absurd hr.symm hu
    | no =>
      rw [hx] at hr hall
      refine call_same (hall (fun e => by cases e)) rfl ?_
      conv => whnf
      repeat' first | (refine RegP.enter ?_; conv => whnf) | (refine DrawP.range (by kernel_rfl) ?_; conv => whnf) | (refine BuildP.frz ⟨rfl, ?_⟩; conv => whnf) | (refine BoxP.row ?_; conv => whnf) | (refine And.intro Nat.zero_lt_one ?_; conv => whnf) | (refine And.intro (Nat.succ_pos _) ?_; conv => whnf) | fail
      all_goals try ((try subst hr); (refine Ent.of_check ?_ rfl); (conv => whnf); ((iterate 3 ((all_goals try (conv => whnf)); (repeat' first | exact True.intro | (refine And.intro ?_ ?_) | rfl | exact fun _ h => h | exact .inl rfl | exact none_some | exact .inr ⟨rfl, rfl, fun _ _ => rfl⟩ | exact .inr ⟨rfl, rfl, lt1 rfl⟩ | exact .inr ⟨rfl, rfl, lt2 rfl rfl⟩ | exact .inr ⟨rfl, rfl, lt3 rfl rfl rfl⟩ | fail)))); done)
    | yes xs =>
      rw [hx] at hr hall
      refine call_same (hall (fun e => by cases e)) rfl ?_
      conv => whnf
      repeat' first | (refine RegP.enter ?_; conv => whnf) | (refine DrawP.range (by kernel_rfl) ?_; conv => whnf) | (refine BuildP.frz ⟨rfl, ?_⟩; conv => whnf) | (refine BoxP.row ?_; conv => whnf) | (refine And.intro Nat.zero_lt_one ?_; conv => whnf) | (refine And.intro (Nat.succ_pos _) ?_; conv => whnf) | fail
      all_goals try ((try subst hr); (refine Ent.of_check ?_ rfl); (conv => whnf); ((iterate 3 ((all_goals try (conv => whnf)); (repeat' first | exact True.intro | (refine And.intro ?_ ?_) | rfl | exact fun _ h => h | exact .inl rfl | exact none_some | exact .inr ⟨rfl, rfl, fun _ _ => rfl⟩ | exact .inr ⟨rfl, rfl, lt1 rfl⟩ | exact .inr ⟨rfl, rfl, lt2 rfl rfl⟩ | exact .inr ⟨rfl, rfl, lt3 rfl rfl rfl⟩ | fail)))); done)
  simp only [h6] at hr
  conv => whnf
  repeat' first | (refine RegP.enter ?_; conv => whnf) | (refine DrawP.range (by kernel_rfl) ?_; conv => whnf) | (refine BuildP.frz ⟨rfl, ?_⟩; conv => whnf) | (refine BoxP.row ?_; conv => whnf) | (refine And.intro Nat.zero_lt_one ?_; conv => whnf) | (refine And.intro (Nat.succ_pos _) ?_; conv => whnf) | fail
  cases h5 : g.kind == 5
  · simp only [h5] at hr
    subst hr
    conv => whnf
    repeat' first | (refine RegP.enter ?_; conv => whnf) | (refine DrawP.range (by kernel_rfl) ?_; conv => whnf) | (refine BuildP.frz ⟨rfl, ?_⟩; conv => whnf) | (refine BoxP.row ?_; conv => whnf) | (refine And.intro Nat.zero_lt_one ?_; conv => whnf) | (refine And.intro (Nat.succ_pos _) ?_; conv => whnf) | fail
    rw [h5]
    conv => whnf
    repeat' first | (refine RegP.enter ?_; conv => whnf) | (refine DrawP.range (by kernel_rfl) ?_; conv => whnf) | (refine BuildP.frz ⟨rfl, ?_⟩; conv => whnf) | (refine BoxP.row ?_; conv => whnf) | (refine And.intro Nat.zero_lt_one ?_; conv => whnf) | (refine And.intro (Nat.succ_pos _) ?_; conv => whnf) | fail
    refine Ent.of_check ?_ rfl
    conv => whnf
    (iterate 3 ((all_goals try (conv => whnf)); (repeat' first | exact True.intro | (refine And.intro ?_ ?_) | rfl | exact fun _ h => h | exact .inl rfl | exact none_some | exact .inr ⟨rfl, rfl, fun _ _ => rfl⟩ | exact .inr ⟨rfl, rfl, lt1 rfl⟩ | exact .inr ⟨rfl, rfl, lt2 rfl rfl⟩ | exact .inr ⟨rfl, rfl, lt3 rfl rfl rfl⟩ | fail)))
  simp only [h5] at hr
  conv => whnf
  repeat' first | (refine RegP.enter ?_; conv => whnf) | (refine DrawP.range (by kernel_rfl) ?_; conv => whnf) | (refine BuildP.frz ⟨rfl, ?_⟩; conv => whnf) | (refine BoxP.row ?_; conv => whnf) | (refine And.intro Nat.zero_lt_one ?_; conv => whnf) | (refine And.intro (Nat.succ_pos _) ?_; conv => whnf) | fail
  have hgd := goodM_doc hg
  have hdoc : ∀ d, (docF (parseF n) names d).map Nd.docm ≠ .unk → goodD d = true → PSpec cxA 119 [.lz (.gs names), .lz (.gd d)] (retNd ((docF (parseF n) names d).map Nd.docm)) := by
    intro d h1 h2
    cases hx : docF (parseF n) names d with
    | unk => rw [hx] at h1; exact absurd rfl h1
    | no => have := document_ok ih names d h2 (by rw [hx]; exact fun e => by cases e); rw [hx] at this; exact this
    | yes xs => have := document_ok ih names d h2 (by rw [hx]; exact fun e => by cases e); rw [hx] at this; exact this
  cases h1 : ((g.doc.length : Nat) : Int) == 1
  · have hr2 : (docF (parseF n) names g.doc).map Nd.docm = r := by
      match hd : g.doc with
      | [] => rw [hd] at hr; exact hr
      | [_] => rw [hd] at h1; simp at h1
      | _ :: _ :: _ => rw [hd] at hr; exact hr
    subst hr2
    conv => whnf
    repeat' first | (refine RegP.enter ?_; conv => whnf) | (refine DrawP.range (by kernel_rfl) ?_; conv => whnf) | (refine BuildP.frz ⟨rfl, ?_⟩; conv => whnf) | (refine BoxP.row ?_; conv => whnf) | (refine And.intro Nat.zero_lt_one ?_; conv => whnf) | (refine And.intro (Nat.succ_pos _) ?_; conv => whnf) | fail
    rw [h5]
    conv => whnf
    repeat' first | (refine RegP.enter ?_; conv => whnf) | (refine DrawP.range (by kernel_rfl) ?_; conv => whnf) | (refine BuildP.frz ⟨rfl, ?_⟩; conv => whnf) | (refine BoxP.row ?_; conv => whnf) | (refine And.intro Nat.zero_lt_one ?_; conv => whnf) | (refine And.intro (Nat.succ_pos _) ?_; conv => whnf) | fail
    have hlaw := hdoc g.doc hu hgd
    cases hx : (docF (parseF n) names g.doc).map Nd.docm with
    | unk => exact absurd hx hu
    | no =>
      rw [hx] at hlaw
      refine call_same (hlaw) rfl ?_
      conv => whnf
      repeat' first | (refine RegP.enter ?_; conv => whnf) | (refine DrawP.range (by kernel_rfl) ?_; conv => whnf) | (refine BuildP.frz ⟨rfl, ?_⟩; conv => whnf) | (refine BoxP.row ?_; conv => whnf) | (refine And.intro Nat.zero_lt_one ?_; conv => whnf) | (refine And.intro (Nat.succ_pos _) ?_; conv => whnf) | fail
      refine Ent.of_check ?_ rfl
      conv => whnf
      (iterate 3 ((all_goals try (conv => whnf)); (repeat' first | exact True.intro | (refine And.intro ?_ ?_) | rfl | exact fun _ h => h | exact .inl rfl | exact none_some | exact .inr ⟨rfl, rfl, fun _ _ => rfl⟩ | exact .inr ⟨rfl, rfl, lt1 rfl⟩ | exact .inr ⟨rfl, rfl, lt2 rfl rfl⟩ | exact .inr ⟨rfl, rfl, lt3 rfl rfl rfl⟩ | fail)))
    | yes x =>
      rw [hx] at hlaw
      refine call_same (hlaw) rfl ?_
      conv => whnf
      repeat' first | (refine RegP.enter ?_; conv => whnf) | (refine DrawP.range (by kernel_rfl) ?_; conv => whnf) | (refine BuildP.frz ⟨rfl, ?_⟩; conv => whnf) | (refine BoxP.row ?_; conv => whnf) | (refine And.intro Nat.zero_lt_one ?_; conv => whnf) | (refine And.intro (Nat.succ_pos _) ?_; conv => whnf) | fail
      exact Ent.of_check (leK_refl _ (idf_av x)) (idf_av x)
  have hl1 : g.doc.length = 1 := by simp at h1; omega
  obtain ⟨m, v, hd⟩ : ∃ m v, g.doc = [(m, v)] := by
    match hd : g.doc with
    | [(m, v)] => exact ⟨m, v, rfl⟩
    | [] => rw [hd] at hl1; simp at hl1
    | _ :: _ :: _ => rw [hd] at hl1; simp at hl1
  rw [hd] at hr
  replace hr : (match decide (first0 m = 36) with | true => callF (parseF n) names m v | false => (docF (parseF n) names [(m, v)]).map .docm) = r := hr
  have hg1 : 0 < m.size ∧ goodM v = true := by rw [hd] at hgd; exact goodD_get (l := [(m, v)]) (i := 0) (by simp) hgd
  clear hgd
  obtain ⟨k, nn, t, l, d⟩ := g
  obtain rfl : d = [(m, v)] := hd
  conv => whnf
  repeat' first | (refine RegP.enter ?_; conv => whnf) | (refine DrawP.range (by kernel_rfl) ?_; conv => whnf) | (refine BuildP.frz ⟨rfl, ?_⟩; conv => whnf) | (refine BoxP.row ?_; conv => whnf) | (refine And.intro Nat.zero_lt_one ?_; conv => whnf) | (refine And.intro (Nat.succ_pos _) ?_; conv => whnf) | fail
  refine And.intro hg1.1 ?_
  conv => whnf
  rw [first_eq]
  cases h36 : decide (first0 m = 36)
  · rw [h36] at hr
    replace hr : (docF (parseF n) names [(m, v)]).map .docm = r := hr
    subst hr
    rw [show decide (first0 ((GV.mk k nn t l [(m, v)]).doc.getD 0 default).fst = 36) = false from h36]
    conv => whnf
    repeat' first | (refine RegP.enter ?_; conv => whnf) | (refine DrawP.range (by kernel_rfl) ?_; conv => whnf) | (refine BuildP.frz ⟨rfl, ?_⟩; conv => whnf) | (refine BoxP.row ?_; conv => whnf) | (refine And.intro Nat.zero_lt_one ?_; conv => whnf) | (refine And.intro (Nat.succ_pos _) ?_; conv => whnf) | fail
    rw [h5]
    conv => whnf
    repeat' first | (refine RegP.enter ?_; conv => whnf) | (refine DrawP.range (by kernel_rfl) ?_; conv => whnf) | (refine BuildP.frz ⟨rfl, ?_⟩; conv => whnf) | (refine BoxP.row ?_; conv => whnf) | (refine And.intro Nat.zero_lt_one ?_; conv => whnf) | (refine And.intro (Nat.succ_pos _) ?_; conv => whnf) | fail
    have hlaw := hdoc [(m, v)] hu (by simp [goodD, hg1])
    cases hx : (docF (parseF n) names [(m, v)]).map Nd.docm with
    | unk => exact absurd hx hu
    | no =>
      rw [hx] at hlaw
      refine call_same (hlaw) rfl ?_
      conv => whnf
      repeat' first | (refine RegP.enter ?_; conv => whnf) | (refine DrawP.range (by kernel_rfl) ?_; conv => whnf) | (refine BuildP.frz ⟨rfl, ?_⟩; conv => whnf) | (refine BoxP.row ?_; conv => whnf) | (refine And.intro Nat.zero_lt_one ?_; conv => whnf) | (refine And.intro (Nat.succ_pos _) ?_; conv => whnf) | fail
      refine Ent.of_check ?_ rfl
      conv => whnf
      (iterate 3 ((all_goals try (conv => whnf)); (repeat' first | exact True.intro | (refine And.intro ?_ ?_) | rfl | exact fun _ h => h | exact .inl rfl | exact none_some | exact .inr ⟨rfl, rfl, fun _ _ => rfl⟩ | exact .inr ⟨rfl, rfl, lt1 rfl⟩ | exact .inr ⟨rfl, rfl, lt2 rfl rfl⟩ | exact .inr ⟨rfl, rfl, lt3 rfl rfl rfl⟩ | fail)))
    | yes x =>
      rw [hx] at hlaw
      refine call_same (hlaw) rfl ?_
      conv => whnf
      repeat' first | (refine RegP.enter ?_; conv => whnf) | (refine DrawP.range (by kernel_rfl) ?_; conv => whnf) | (refine BuildP.frz ⟨rfl, ?_⟩; conv => whnf) | (refine BoxP.row ?_; conv => whnf) | (refine And.intro Nat.zero_lt_one ?_; conv => whnf) | (refine And.intro (Nat.succ_pos _) ?_; conv => whnf) | fail
      exact Ent.of_check (leK_refl _ (idf_av x)) (idf_av x)
  · rw [h36] at hr
    replace hr : callF (parseF n) names m v = r := hr
    subst hr
    rw [show decide (first0 ((GV.mk k nn t l [(m, v)]).doc.getD 0 default).fst = 36) = true from h36]
    conv => whnf
    repeat' first | (refine RegP.enter ?_; conv => whnf) | (refine DrawP.range (by kernel_rfl) ?_; conv => whnf) | (refine BuildP.frz ⟨rfl, ?_⟩; conv => whnf) | (refine BoxP.row ?_; conv => whnf) | (refine And.intro Nat.zero_lt_one ?_; conv => whnf) | (refine And.intro (Nat.succ_pos _) ?_; conv => whnf) | fail
    have hlaw := pcall_ok ih names m v hg1.2 hu
    cases hx : callF (parseF n) names m v with
    | unk => exact absurd hx hu
    | no =>
      rw [hx] at hlaw
      refine call_same (hlaw) rfl ?_
      conv => whnf
      repeat' first | (refine RegP.enter ?_; conv => whnf) | (refine DrawP.range (by kernel_rfl) ?_; conv => whnf) | (refine BuildP.frz ⟨rfl, ?_⟩; conv => whnf) | (refine BoxP.row ?_; conv => whnf) | (refine And.intro Nat.zero_lt_one ?_; conv => whnf) | (refine And.intro (Nat.succ_pos _) ?_; conv => whnf) | fail
      refine Ent.of_check ?_ rfl
      conv => whnf
      (iterate 3 ((all_goals try (conv => whnf)); (repeat' first | exact True.intro | (refine And.intro ?_ ?_) | rfl | exact fun _ h => h | exact .inl rfl | exact none_some | exact .inr ⟨rfl, rfl, fun _ _ => rfl⟩ | exact .inr ⟨rfl, rfl, lt1 rfl⟩ | exact .inr ⟨rfl, rfl, lt2 rfl rfl⟩ | exact .inr ⟨rfl, rfl, lt3 rfl rfl rfl⟩ | fail)))
    | yes x =>
      rw [hx] at hlaw
      refine call_same (hlaw) rfl ?_
      conv => whnf
      repeat' first | (refine RegP.enter ?_; conv => whnf) | (refine DrawP.range (by kernel_rfl) ?_; conv => whnf) | (refine BuildP.frz ⟨rfl, ?_⟩; conv => whnf) | (refine BoxP.row ?_; conv => whnf) | (refine And.intro Nat.zero_lt_one ?_; conv => whnf) | (refine And.intro (Nat.succ_pos _) ?_; conv => whnf) | fail
      exact Ent.of_check (leK_refl _ (idf_av x)) (idf_av x)
theorem parse_ok (n : Nat) (names : List ByteArray) (g : GV) (hg : goodM g = true) (hu : parseF n names g ≠ .unk) : PSpec cxA 63 [.lz (.gs names), .agg g.cells] (retNd (parseF n names g)) := by
  obtain ⟨h1, h2⟩ := parse_spec n names g hg
  cases hx : parseF n names g with
  | unk => exact absurd hx hu
  | no => exact h1 hx
  | yes x => exact h2 x hx
end Go.Eng

/- Shown: whatever the numbers, the law 'ExprDates' answers true and leaves its arguments alone (part DatesA). Conditions: as the row says: the listed tables of Go's library stand as they are laid. -/
import Derived.Test.YtlcepambcoobgaaGreatDoorCards
import Derived.Test.YtlcepambcoobgaaGreatDoorTie
import Derived.WalkKit
import Derived.ProofKit
import Derived.OpenShut
import Derived.Deep.DeepHandedRow
import Derived.Lib.LaidTab
import Derived.Lib.LaidU8T
import Derived.Test.YtlcepambcoobgaaGreatDoorDates2
namespace Go.Proofs.YtlcepambcoobgaaGreatDoor.dates
open Go.ChangeShapes Go.WideShapes Go.ChangeAt Go.RowKit Go.Eng Go.Proofs
set_option maxRecDepth 100000
theorem own : ownKnob Tryz.prog.godebug = none := by kernel_rfl
def ren : Go.Shelf.Ren := ⟨fun x => x, fun x => match x with | 119 => 278 | 138 => 280 | 139 => 281 | x => x, fun x => match x with | 3 => 1 | 4 => 2 | x => x⟩
theorem u8t : Go.Proofs.U8Types Tryz.prog ren where
  t5 := by kernel_rfl
  t119 := by kernel_rfl
  t138 := by kernel_rfl
  t139 := by kernel_rfl
theorem u8x : Go.Proofs.U8Extra Tryz.prog ren where
  n3 := by kernel_rfl
  n4 := by kernel_rfl
  y3 := by kernel_rfl
  y4 := by kernel_rfl
  c5 := by kernel_rfl
  c119 := by kernel_rfl
  c138 := by kernel_rfl
theorem reads {W : World} (h : laidMetH Tryz.prog Rows.exprDatesRow.laid W) : ∀ n d, (n, d) ∈ Rows.exprDatesRow.laid → Lib.VarReads Tryz.prog W n d := by
  have h' : laidMet Tryz.prog Rows.exprDatesRow.laid W := h
  obtain ⟨ps, hv, _⟩ := h'
  exact Lib.LaidVars_reads hv
theorem utf8 {W : World} (h : laidMetH Tryz.prog Rows.exprDatesRow.laid W) : Lib.Utf8Tabs 1 2 W := by
  refine Go.Proofs.utf8Tabs_of_readsT u8t u8x ?_ ?_
  · have e : Lib.firstData = Rows.laid_unicode_utf8_first := by kernel_rfl
    rw [e]
    exact reads h _ _ (by simp [Rows.exprDatesRow])
  · have e : Lib.acceptData = Rows.laid_unicode_utf8_acceptRanges := by kernel_rfl
    rw [e]
    exact reads h _ _ (by simp [Rows.exprDatesRow])
theorem pow10 {W : World} (h : laidMetH Tryz.prog Rows.exprDatesRow.laid W) : Lib.TabIs Tryz.prog W "internal/strconv.uint64pow10" .u64 Lib.pow10Tab := by
  obtain ⟨g', t', cs, fuel, p, hg', ht', hvar, hd⟩ := reads h "internal/strconv.uint64pow10" Rows.laid_internal_strconv_uint64pow10 (by simp [Rows.exprDatesRow])
  obtain rfl := Option.some.inj ((show Tryz.prog.globalNamed "internal/strconv.uint64pow10" = some 3 by kernel_rfl).symm.trans hg')
  obtain rfl := Option.some.inj ((show (Tryz.prog.globals[3]?).map (·.type) = some 347 by kernel_rfl).symm.trans ht')
  unfold Lib.TabIs
  have e : (Rows.laid_internal_strconv_uint64pow10 : DataW Unit) = Lib.tabData .u64 Lib.pow10Tab := by kernel_rfl
  rw [e] at hd
  rw [hvar, ← Lib.cells_of_tab (show Tryz.prog.underlying 347 = some (.array 20 252) by kernel_rfl) (show Tryz.prog.underlying 252 = some (.int .u64) by kernel_rfl) (by kernel_rfl) (by kernel_rfl) hd]
theorem start0 : ((begin Tryz.prog (fun _ _ => 0) default).world.heap[0]?).bind Obj.row? = some (#[.int .i64 0], 3) := by kernel_rfl
theorem start1 : ∃ z t, ((begin Tryz.prog (fun _ _ => 0) default).world.heap[1]?).bind Obj.row? = some (z, t) := by
  obtain ⟨⟨z, t⟩, h⟩ := Option.isSome_iff_exists.1 (show (((begin Tryz.prog (fun _ _ => 0) default).world.heap[1]?).bind Obj.row?).isSome = true by kernel_rfl)
  exact ⟨z, t, h⟩
theorem start2 : ∃ z t, ((begin Tryz.prog (fun _ _ => 0) default).world.heap[2]?).bind Obj.row? = some (z, t) := by
  obtain ⟨⟨z, t⟩, h⟩ := Option.isSome_iff_exists.1 (show (((begin Tryz.prog (fun _ _ => 0) default).world.heap[2]?).bind Obj.row?).isSome = true by kernel_rfl)
  exact ⟨z, t, h⟩
theorem start3 : ∃ z t, ((begin Tryz.prog (fun _ _ => 0) default).world.heap[3]?).bind Obj.row? = some (z, t) := by
  obtain ⟨⟨z, t⟩, h⟩ := Option.isSome_iff_exists.1 (show (((begin Tryz.prog (fun _ _ => 0) default).world.heap[3]?).bind Obj.row?).isSome = true by kernel_rfl)
  exact ⟨z, t, h⟩
theorem nglob : Tryz.prog.globals.size = 8 := by kernel_rfl
theorem int3 : Tryz.prog.underlying 3 = some (.int .i64) := by kernel_rfl
theorem bool4 : Tryz.prog.underlying 4 = some .bool := by kernel_rfl
theorem maxLen {W : World} (h : W.ShapedOpen Tryz.prog) : ∃ m : Int, W.cell? ⟨0, 0, none⟩ = some (.int .i64 m) := by
  obtain ⟨cs, hc, hs, hb⟩ := h.1 0 _ _ (by rw [nglob]; decide) start0
  obtain ⟨ts, h1, ⟨n, h2⟩, h3⟩ := hb (by kernel_rfl)
  have e1 : Tryz.prog.cellTypes Tryz.prog.depth 3 = some [3] := by kernel_rfl
  rw [e1] at h1
  cases h1
  have hsz : cs.size = 1 := hs
  obtain ⟨u, hu, hok⟩ := h3 0 cs[0] (by simp [hsz])
  have hu3 : u = 3 := by simpa using hu.symm
  subst hu3
  unfold Cell.ok at hok
  rw [int3] at hok
  have hcell : W.cell? ⟨0, 0, none⟩ = some cs[0] := by
    unfold World.cell?
    simp [hc, hsz]
  rw [hcell]
  generalize cs[0] = v at *
  revert hok
  cases v <;> simp [IntKind.has] <;> intro h _ _ <;> exact h
theorem sizes {W : World} (h : W.ShapedOpen Tryz.prog) : ∀ g, g ∈ [0, 1, 2, 3] → g < W.heap.size := by
  have one : ∀ g, g < 8 → (∃ z t, ((begin Tryz.prog (fun _ _ => 0) default).world.heap[g]?).bind Obj.row? = some (z, t)) → g < W.heap.size := by
    rintro g hg ⟨z, t, hz⟩
    obtain ⟨cs, hc, _⟩ := h.1 g z t (by rw [nglob]; exact hg) hz
    exact (Array.getElem?_eq_some_iff.1 hc).1
  intro g hg
  simp only [List.mem_cons, List.not_mem_nil, or_false] at hg
  rcases hg with rfl | rfl | rfl | rfl
  · exact one 0 (by decide) ⟨_, _, start0⟩
  · exact one 1 (by decide) start1
  · exact one 2 (by decide) start2
  · exact one 3 (by decide) start3
theorem laid {W : World} (h : laidMetH Tryz.prog Rows.exprDatesRow.laid W) (hs : W.ShapedOpen Tryz.prog) : GOK cxA W (fun b => b < W.heap.size) :=
  ⟨fun g cs hg => (by cases hg), W, ⟨pow10 h, utf8 h, maxLen hs⟩, fun g hg => ⟨sizes hs g hg, rfl⟩⟩
theorem sums_call (W : World) (a b : Int) (ha : (Lit.int .i64 a).wf = true) (hb : (Lit.int .i64 b).wf = true) (hL : laidMetH Tryz.prog Rows.exprDatesRow.laid W) (hS : W.ShapedOpen Tryz.prog) :
    Calls Tryz.prog 8 #[.int .i64 a, .int .i64 b] W fun e w' => e = .returned (.bool true) ∧ w'.os = W.os ∧ w'.output = W.output ∧ ∀ i : Nat, i < W.heap.size → w'.heap[i]? = W.heap[i]? := by
  have ri : ∀ {n : Int}, (Lit.int .i64 n).wf = true → inInt n = true := fun h => by
    simp only [Lit.wf, Bool.and_eq_true, decide_eq_true_eq] at h
    rw [inInt_iff]
    exact h
  have hp := dates_ok a b (ri ha) (ri hb) W (fun b => b < W.heap.size) [.int .i64 a, .int .i64 b] (fun _ h => h) (laid hL hS)
    (.cons (.lit (show Plain (.int _ _) from trivial)) (.cons (.lit (show Plain (.int _ _) from trivial)) (.nil)))
  unfold CallsX at hp
  have hcall : (callFunc 8 ⟨[.int .i64 a, .int .i64 b]⟩).run cxA.P W = .ok (.enter 8 ⟨[.int .i64 a, .int .i64 b]⟩) W := Tryz.call8 _ W
  rw [hcall] at hp
  refine Calls.mono hp fun e w' ⟨F', he, hf⟩ => ?_
  cases he with
  | ret hv =>
    obtain ⟨rfl, _⟩ := RepF_lit hv
    exact ⟨rfl, hf.os, hf.output, fun i hi => hf.keep i hi⟩
theorem post_none {H : Type} {enc : TypeId × Value → H} {P : Program} {f : Func} {s : ChangeSpec} {apart fresh handsOn again : Bool} {W W' : World} {args : Array Value} {v : Value} {ds gs : List (DataW H)}
    (hW : DataW.Whole enc P f.params.toList s.vars apart W args.toList ds gs [])
    (hres : ∀ (b : Nat) (sp : Nat → Bool) (hd : Bool), DataW.TrodAll enc P W' b sp hd f.resultTypes.toList (v.resultList f.resultTypes.size) (s.fn H (ds ++ gs)).results [])
    (hargs : ∀ sp : Nat → Bool, DataW.TrodAll enc P W' 0 sp true f.params.toList args.toList (s.fn H (ds ++ gs)).args [])
    (hvars : ∀ sp : Nat → Bool, DataW.TrodVars enc P W' sp s.vars (s.fn H (ds ++ gs)).vars [])
    (hk : W.keptBut W' (· ∈ ([] : List MemPlace)))
    (hok : ∀ (j : Nat) (t : TypeId) (r : Value), f.resultTypes[j]? = some t → (v.resultList f.resultTypes.size)[j]? = some r → Value.okWide P W' .any 0 t r) :
    s.post enc P f apart fresh handsOn again W args v W' := by
  refine ⟨ds, gs, [], [], [], [], hW, hres _ _ _, hargs _, hvars _, World.keptBut_mono (fun p hp => ⟨hp, ?_⟩) hk, fun _ => ?_⟩
  · cases hp
  · refine ⟨hok, _, _, ([] ++ []) ++ [], ⟨[] ++ [], [], trodAll_append (hargs _) (hres _ _ _), hvars _, rfl, ?_, ?_⟩, ?_⟩
    · intro b off hp
      cases hp
    · intro ha
      simp
    · intro p hp _
      cases hp
theorem params8 : Tryz.f8.params = #[3, 3] := rfl
theorem contract (H : Type) (enc : TypeId × Value → H) (W : World) (base : Nat) (args : Array Value) (ds gs : List (DataW H)) (before : List MemPlace)
    (hval : ∀ (j : Nat) t v, Tryz.f8.params[j]? = some t → args[j]? = some v → Value.okWide Tryz.prog W .any base t v)
    (hW : DataW.Whole enc Tryz.prog Tryz.f8.params.toList Rows.exprDatesSpec.vars false W args.toList ds gs before) (hL : laidMetH Tryz.prog Rows.exprDatesRow.laid W) (hS : W.ShapedOpen Tryz.prog) :
    Calls Tryz.prog 8 args W fun e W' => ∃ v, e = .returned v ∧ Rows.exprDatesSpec.post enc Tryz.prog Tryz.f8 false true false false W args v W' := by
  have hW' := hW
  obtain ⟨p, q, hA0, hV, rfl, hfz, hnd⟩ := hW
  have hA : DataW.TrodAll enc Tryz.prog W 0 (fun _ => true) true Tryz.f8.params.toList args.toList ds p := hA0
  rw [params8] at hA hval
  obtain ⟨v0, vs0, d0, ds0, p0, q0, hargs0, rfl, rfl, h0, r0⟩ := trodAll_cons hA
  obtain ⟨v1, vs1, d1, ds1, p1, q1, hargs1, rfl, rfl, h1, r1⟩ := trodAll_cons r0
  obtain ⟨rfl, rfl, rfl⟩ := trodAll_nil r1
  subst hargs1
  obtain rfl : args = #[v0, v1] := by cases args; simp_all
  obtain ⟨rfl, rfl⟩ := trodVars_none hV
  obtain ⟨a, rfl, rfl, rfl, wa⟩ := open_int int3 (hval 0 3 v0 rfl rfl) h0
  obtain ⟨b, rfl, rfl, rfl, wb⟩ := open_int int3 (hval 1 3 v1 rfl rfl) h1
  clear hA0
  simp only [List.append_nil] at hW'
  refine (sums_call W a b wa wb hL hS).mono fun e W' ⟨he, ho, hout, hh⟩ => ?_
  subst he
  refine ⟨_, rfl, post_none hW' (fun _ _ _ => trodAll_cons_mk (shut_bool bool4 _) trodAll_mk0) (fun _ => trodAll_cons_mk (shut_int int3 wa) (trodAll_cons_mk (shut_int int3 wb) trodAll_mk0)) (fun _ => rfl) ⟨ho, hout, fun i hi => ?_⟩ (ok_one (t := 4) rfl rfl (okWide_bool_mk bool4 _))⟩
  rw [hh i hi]
  cases W.heap[i]? with
  | none => rfl
  | some o => cases o <;> simp
end Go.Proofs.YtlcepambcoobgaaGreatDoor.dates

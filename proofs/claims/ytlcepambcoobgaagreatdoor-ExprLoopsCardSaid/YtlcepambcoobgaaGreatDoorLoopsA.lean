/- Shown: whatever the list of values and the number, the law 'ExprLoops' answers true and leaves its arguments alone (part LoopsA). Conditions: as the row says: the listed tables of Go's library stand as they are laid. -/
import Derived.Test.YtlcepambcoobgaaGreatDoorCards
import Derived.Test.YtlcepambcoobgaaGreatDoorTie
import Derived.WalkKit
import Derived.ProofKit
import Derived.OpenShut
import Derived.Deep.DeepHandedRow
import Derived.Lib.LaidTab
import Derived.Lib.LaidU8T
import Derived.ReadAgain
import Derived.SizedLaws
import Derived.Test.YtlcepambcoobgaaGreatDoorLoops3
namespace Go.Proofs.YtlcepambcoobgaaGreatDoor.loops
open Go.ChangeShapes Go.WideShapes Go.ChangeAt Go.RowKit Go.Eng Go.Proofs
set_option maxRecDepth 100000
theorem own : ownKnob Tryz.prog.godebug = none := by kernel_rfl
def ren : Go.Shelf.Ren := ⟨fun x => x, fun x => match x with | 119 => 278 | 138 => 280 | 139 => 281 | x => x, fun x => match x with | 3 => 1 | 4 => 2 | x => x⟩
theorem u8t : Go.Proofs.U8Types Tryz.prog ren where
  t5 := by kernel_rfl
  t119 := by kernel_rfl
  t138 := by kernel_rfl
  t139 := by kernel_rfl
theorem u8x : Go.Proofs.U8Extra Tryz.prog ren where
  n3 := by kernel_rfl
  n4 := by kernel_rfl
  y3 := by kernel_rfl
  y4 := by kernel_rfl
  c5 := by kernel_rfl
  c119 := by kernel_rfl
  c138 := by kernel_rfl
theorem reads {W : World} (h : laidMetH Tryz.prog Rows.exprLoopsRow.laid W) : ∀ n d, (n, d) ∈ Rows.exprLoopsRow.laid → Lib.VarReads Tryz.prog W n d := by
  have h' : laidMet Tryz.prog Rows.exprLoopsRow.laid W := h
  obtain ⟨ps, hv, _⟩ := h'
  exact Lib.LaidVars_reads hv
theorem utf8 {W : World} (h : laidMetH Tryz.prog Rows.exprLoopsRow.laid W) : Lib.Utf8Tabs 1 2 W := by
  refine Go.Proofs.utf8Tabs_of_readsT u8t u8x ?_ ?_
  · have e : Lib.firstData = Rows.laid_unicode_utf8_first := by kernel_rfl
    rw [e]
    exact reads h _ _ (by simp [Rows.exprLoopsRow])
  · have e : Lib.acceptData = Rows.laid_unicode_utf8_acceptRanges := by kernel_rfl
    rw [e]
    exact reads h _ _ (by simp [Rows.exprLoopsRow])
theorem pow10 {W : World} (h : laidMetH Tryz.prog Rows.exprLoopsRow.laid W) : Lib.TabIs Tryz.prog W "internal/strconv.uint64pow10" .u64 Lib.pow10Tab := by
  obtain ⟨g', t', cs, fuel, p, hg', ht', hvar, hd⟩ := reads h "internal/strconv.uint64pow10" Rows.laid_internal_strconv_uint64pow10 (by simp [Rows.exprLoopsRow])
  obtain rfl := Option.some.inj ((show Tryz.prog.globalNamed "internal/strconv.uint64pow10" = some 3 by kernel_rfl).symm.trans hg')
  obtain rfl := Option.some.inj ((show (Tryz.prog.globals[3]?).map (·.type) = some 347 by kernel_rfl).symm.trans ht')
  unfold Lib.TabIs
  have e : (Rows.laid_internal_strconv_uint64pow10 : DataW Unit) = Lib.tabData .u64 Lib.pow10Tab := by kernel_rfl
  rw [e] at hd
  rw [hvar, ← Lib.cells_of_tab (show Tryz.prog.underlying 347 = some (.array 20 252) by kernel_rfl) (show Tryz.prog.underlying 252 = some (.int .u64) by kernel_rfl) (by kernel_rfl) (by kernel_rfl) hd]
theorem start0 : ((begin Tryz.prog (fun _ _ => 0) default).world.heap[0]?).bind Obj.row? = some (#[.int .i64 0], 3) := by kernel_rfl
theorem start1 : ∃ z t, ((begin Tryz.prog (fun _ _ => 0) default).world.heap[1]?).bind Obj.row? = some (z, t) := by
  obtain ⟨⟨z, t⟩, h⟩ := Option.isSome_iff_exists.1 (show (((begin Tryz.prog (fun _ _ => 0) default).world.heap[1]?).bind Obj.row?).isSome = true by kernel_rfl)
  exact ⟨z, t, h⟩
theorem start2 : ∃ z t, ((begin Tryz.prog (fun _ _ => 0) default).world.heap[2]?).bind Obj.row? = some (z, t) := by
  obtain ⟨⟨z, t⟩, h⟩ := Option.isSome_iff_exists.1 (show (((begin Tryz.prog (fun _ _ => 0) default).world.heap[2]?).bind Obj.row?).isSome = true by kernel_rfl)
  exact ⟨z, t, h⟩
theorem start3 : ∃ z t, ((begin Tryz.prog (fun _ _ => 0) default).world.heap[3]?).bind Obj.row? = some (z, t) := by
  obtain ⟨⟨z, t⟩, h⟩ := Option.isSome_iff_exists.1 (show (((begin Tryz.prog (fun _ _ => 0) default).world.heap[3]?).bind Obj.row?).isSome = true by kernel_rfl)
  exact ⟨z, t, h⟩
theorem nglob : Tryz.prog.globals.size = 8 := by kernel_rfl
theorem int3 : Tryz.prog.underlying 3 = some (.int .i64) := by kernel_rfl
theorem bool4 : Tryz.prog.underlying 4 = some .bool := by kernel_rfl
theorem maxLen {W : World} (h : W.ShapedOpen Tryz.prog) : ∃ m : Int, W.cell? ⟨0, 0, none⟩ = some (.int .i64 m) := by
  obtain ⟨cs, hc, hs, hb⟩ := h.1 0 _ _ (by rw [nglob]; decide) start0
  obtain ⟨ts, h1, ⟨n, h2⟩, h3⟩ := hb (by kernel_rfl)
  have e1 : Tryz.prog.cellTypes Tryz.prog.depth 3 = some [3] := by kernel_rfl
  rw [e1] at h1
  cases h1
  have hsz : cs.size = 1 := hs
  obtain ⟨u, hu, hok⟩ := h3 0 cs[0] (by simp [hsz])
  have hu3 : u = 3 := by simpa using hu.symm
  subst hu3
  unfold Cell.ok at hok
  rw [int3] at hok
  have hcell : W.cell? ⟨0, 0, none⟩ = some cs[0] := by
    unfold World.cell?
    simp [hc, hsz]
  rw [hcell]
  generalize cs[0] = v at *
  revert hok
  cases v <;> simp [IntKind.has] <;> intro h _ _ <;> exact h
theorem sizes {W : World} (h : W.ShapedOpen Tryz.prog) : ∀ g, g ∈ [0, 1, 2, 3] → g < W.heap.size := by
  have one : ∀ g, g < 8 → (∃ z t, ((begin Tryz.prog (fun _ _ => 0) default).world.heap[g]?).bind Obj.row? = some (z, t)) → g < W.heap.size := by
    rintro g hg ⟨z, t, hz⟩
    obtain ⟨cs, hc, _⟩ := h.1 g z t (by rw [nglob]; exact hg) hz
    exact (Array.getElem?_eq_some_iff.1 hc).1
  intro g hg
  simp only [List.mem_cons, List.not_mem_nil, or_false] at hg
  rcases hg with rfl | rfl | rfl | rfl
  · exact one 0 (by decide) ⟨_, _, start0⟩
  · exact one 1 (by decide) start1
  · exact one 2 (by decide) start2
  · exact one 3 (by decide) start3
theorem laid {W : World} (h : laidMetH Tryz.prog Rows.exprLoopsRow.laid W) (hs : W.ShapedOpen Tryz.prog) : GOK cxA W (fun b => b < W.heap.size) :=
  ⟨fun g cs hg => (by cases hg), W, ⟨pow10 h, utf8 h, maxLen hs⟩, fun g hg => ⟨sizes hs g hg, rfl⟩⟩
theorem loops_call (W : World) (v : Value) (l : List GV) (n : Int) (hv : RepF W (fun b => b < W.heap.size) (.lz (.gl l)) v) (hL : laidMetH Tryz.prog Rows.exprLoopsRow.laid W) (hS : W.ShapedOpen Tryz.prog) :
    Calls Tryz.prog 9 #[v, .int .i64 n] W fun e w' => e = .returned (.bool true) ∧ w'.os = W.os ∧ w'.output = W.output ∧ ∀ i : Nat, i < W.heap.size → w'.heap[i]? = W.heap[i]? := by
  have hp := loops_ok l n W (fun b => b < W.heap.size) [v, .int .i64 n] (fun _ h => h) (laid hL hS)
    (.cons hv (.cons (.lit (show Plain (.int _ _) from trivial)) .nil))
  unfold CallsX at hp
  have hcall : (callFunc 9 ⟨[v, .int .i64 n]⟩).run cxA.P W = .ok (.enter 9 ⟨[v, .int .i64 n]⟩) W := Tryz.call9 _ W
  rw [hcall] at hp
  refine Calls.mono hp fun e w' ⟨F', he, hf⟩ => ?_
  cases he with
  | ret hv =>
    obtain ⟨rfl, _⟩ := RepF_lit hv
    exact ⟨rfl, hf.os, hf.output, fun i hi => hf.keep i hi⟩
theorem kids : Kids Tryz.prog (· < Tryz.prog.types.size) := kids_rows (by kernel_rfl) (by kernel_rfl)
theorem full : ∀ t e, t < Tryz.prog.types.size → Tryz.prog.underlying t = some (.slice e) → 0 < Tryz.prog.cellsOf e := slices_full_of Tryz.prog (by kernel_rfl)
theorem post_keep {H : Type} {enc : TypeId × Value → H} {P : Program} {T : TypeId → Prop} {f : Func} {s : ChangeSpec} {apart fresh handsOn again : Bool} {W W' : World} {args : Array Value} {v : Value} {ds gs : List (DataW H)} {before : List MemPlace}
    (K : Kids P T) (hz : ∀ t e, T t → P.underlying t = some (.slice e) → 0 < P.cellsOf e) (hT : ∀ t ∈ f.params.toList, T t) (hnv : s.vars = [])
    (hW : DataW.Whole enc P f.params.toList s.vars apart W args.toList ds gs before) (hfa : (s.fn H (ds ++ gs)).args = ds) (hfv : (s.fn H (ds ++ gs)).vars = [])
    (hres : ∀ (b : Nat) (sp : Nat → Bool) (hd : Bool), DataW.TrodAll enc P W' b sp hd f.resultTypes.toList (v.resultList f.resultTypes.size) (s.fn H (ds ++ gs)).results [])
    (ho : W'.os = W.os) (hout : W'.output = W.output) (hh : ∀ i : Nat, i < W.heap.size → W'.heap[i]? = W.heap[i]?)
    (hok : ∀ (j : Nat) (t : TypeId) (r : Value), f.resultTypes[j]? = some t → (v.resultList f.resultTypes.size)[j]? = some r → Value.okWide P W' .any 0 t r) :
    s.post enc P f apart fresh handsOn again W args v W' := by
  have hlt : ∀ p ∈ before, p.block < W.heap.size := fun p hp => hW.lt p hp
  have hsame : ∀ p ∈ before, W.sameAt W' p := by
    intro p hp
    have := hh p.block (hlt p hp)
    cases p with
    | cell b o => 
      show W'.cell? _ = W.cell? _
      unfold World.cell?
      rw [show W'.heap[b]? = W.heap[b]? from this]
    | map b => exact this
  have hW0 := hW
  obtain ⟨p, q, hA, hV, e, hfz, hnd⟩ := hW0
  rw [hnv] at hV
  have hq : q = [] := by
    cases gs with
    | nil => exact hV
    | cons _ _ => exact hV.elim
  subst hq
  rw [List.append_nil] at e
  subst e
  have carry : ∀ {ts : List TypeId} {vs : List Value} {ds : List (DataW H)} {ps : List MemPlace}, DataW.TrodAll enc P W 0 (fun _ => true) true ts vs ds ps → (∀ p ∈ ps, W.sameAt W' p) → DataW.TrodAll enc P W' 0 (fun _ => true) true ts vs ds ps := by
    intro ts
    induction ts with
    | nil =>
      intro vs ds ps h _
      obtain ⟨rfl, rfl, rfl⟩ := trodAll_nil h
      exact rfl
    | cons t ts ih =>
      intro vs ds ps h hs
      obtain ⟨v, vs', d, ds', a, b, rfl, rfl, rfl, ⟨n, hn⟩, h2⟩ := trodAll_cons h
      exact trodAll_cons_mk ⟨n, DataW.trod_carry n _ _ _ hn fun x hx => hs x (List.mem_append_left _ hx)⟩ (ih h2 fun x hx => hs x (List.mem_append_right _ hx))
  have hA' := carry hA hsame
  have hargs : ∀ sp : Nat → Bool, (∀ p ∈ before, sp p.block = true) → DataW.TrodAll enc P W' 0 sp true f.params.toList args.toList (s.fn H (ds ++ gs)).args before := fun sp hsp => by
    rw [hfa]
    exact DataW.TrodAll.respare K hz hT hA' hsp
  have hvars : ∀ sp : Nat → Bool, DataW.TrodVars enc P W' sp s.vars (s.fn H (ds ++ gs)).vars [] := fun sp => by
    rw [hnv, hfv]; rfl
  have hk : W.keptBut W' (· ∈ before) := ⟨ho, hout, fun i hi => by
    rw [hh i hi]
    cases W.heap[i]? with
    | none => rfl
    | some o => cases o <;> simp⟩
  have hold : ∀ p ∈ before, (fun b => decide (b < W.heap.size)) p.block = true := fun p hp => by simpa using hlt p hp
  refine ⟨ds, gs, before, [], before, [], hW, hres _ _ _, hargs _ hold, hvars _, World.keptBut_mono (fun p hp => ⟨hp, Or.inr (Or.inl hp)⟩) hk, fun _ => ?_⟩
  refine ⟨hok, _, _, ([] ++ before) ++ [], ⟨[] ++ before, [], trodAll_append (hargs _ (fun _ _ => rfl)) (hres _ _ _), hvars _, rfl, ?_, ?_⟩, ?_⟩
  · intro b off hp
    have hp' : MemPlace.cell b off ∈ before := by simpa using hp
    have h1 := hfz b off hp'
    have h2 := hh b (hlt _ hp')
    unfold World.frozen? at h1 ⊢
    rw [show W'.heap[(⟨b, off, none⟩ : Addr).block]? = W.heap[(⟨b, off, none⟩ : Addr).block]? from h2]
    exact h1
  · intro ha
    have := hnd ha
    simpa using this
  · intro p hp _
    simpa using hp
theorem params9 : Tryz.f9.params = #[27, 3] := rfl
theorem contract (H : Type) (enc : TypeId × Value → H) (W : World) (base : Nat) (args : Array Value) (ds gs : List (DataW H)) (before : List MemPlace)
    (hval : ∀ (j : Nat) t v, Tryz.f9.params[j]? = some t → args[j]? = some v → Value.okWide Tryz.prog W .any base t v)
    (hW : DataW.Whole enc Tryz.prog Tryz.f9.params.toList Rows.exprLoopsSpec.vars false W args.toList ds gs before)
    (hsz : (DataW.weightsEach Tryz.prog (Tryz.f9.params.toList ++ (OpenSpec.ofChange Rows.exprLoopsSpec).bare.plain.varTypes Tryz.prog) (ds ++ gs)).all (· ≤ reachBytes) = true)
    (hL : laidMetH Tryz.prog Rows.exprLoopsRow.laid W) (hS : W.ShapedOpen Tryz.prog) :
    Calls Tryz.prog 9 args W fun e W' => ∃ v, e = .returned v ∧ Rows.exprLoopsSpec.post enc Tryz.prog Tryz.f9 false true false false W args v W' := by
  have hW' := hW
  obtain ⟨p, q, hA0, hV, rfl, hfz, hnd⟩ := hW
  have hA : DataW.TrodAll enc Tryz.prog W 0 (fun _ => true) true Tryz.f9.params.toList args.toList ds p := hA0
  rw [params9] at hA hval
  obtain ⟨v0, vs0, d0, ds0, p0, q0, hargs, rfl, rfl, h0, r0⟩ := trodAll_cons hA
  obtain ⟨v1, vs1, d1, ds1, p1, q1, hargs1, rfl, rfl, h1, r1⟩ := trodAll_cons r0
  obtain ⟨rfl, rfl, rfl⟩ := trodAll_nil r1
  subst hargs1
  obtain rfl : args = #[v0, v1] := by cases args; simp_all
  obtain ⟨rfl, rfl⟩ := trodVars_none hV
  obtain ⟨n, rfl, rfl, rfl, wn⟩ := open_int int3 (hval 1 3 v1 rfl rfl) h1
  have hw : Light d0 27 := fun k hk => by
    have := List.all_eq_true.1 hsz k (DataW.weights_mem_each (j := 0) (t := 27) (d := d0) rfl rfl k hk)
    simpa using this
  have hc : v0.cells = #[v0] := by
    have := hval 0 27 v0 rfl rfl
    unfold Value.okWide Cell.okWide Cell.ok at this
    rw [Tryz.underlying27] at this
    cases v0 <;> first | rfl | (exact this.elim)
  obtain ⟨l, hl⟩ := values_bridge (F := fun b => b < W.heap.size) (fun _ h => h) h0 hc hw
  refine (loops_call W v0 l n hl hL hS).mono fun e W' ⟨he, ho, hout, hh⟩ => ?_
  subst he
  exact ⟨_, rfl, post_keep kids full (by rw [params9]; decide) rfl hW' rfl rfl (fun _ _ _ => trodAll_cons_mk (shut_bool bool4 _) trodAll_mk0) ho hout hh (ok_one (t := 4) rfl rfl (okWide_bool_mk bool4 _))⟩
end Go.Proofs.YtlcepambcoobgaaGreatDoor.loops

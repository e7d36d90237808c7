/- Eng18: an engine for the program's code, and walks of its functions (Ld Wi Wj Wk). -/
import Derived.Test.YtlcepambcoobgaaGreatDoorEng17
namespace Go.Eng
open Go.Proofs
set_option maxRecDepth 10000
set_option maxHeartbeats 4000000
theorem app2 (m : Id → Id) (names : List ByteArray) : List.take names.length (List.drop 0 (renLL m (strs names))) ++ List.map (fun i => [cellsOf (AV.str sThis), cellsOf (AV.str sValue)].getD i []) (List.range (1 + 1)) = strs (names ++ [sThis, sValue]) := by
  rw [renLL_map idfL_strs, List.drop_zero, List.take_of_length_le (by simp)]
  show _ = List.map _ (names ++ [sThis, sValue])
  rw [List.map_append]; rfl
theorem cn1 (names : List ByteArray) (u : Unit) : names.length + (1 + 1) = (names ++ [sThis, sValue]).length := by simp
theorem cn2 (m : Id → Id) (names : List ByteArray) : (0 + (names.length + (1 + 1))).le (List.take names.length (List.drop 0 (renLL m (strs names))) ++ List.map (fun i => [cellsOf (AV.str sThis), cellsOf (AV.str sValue)].getD i []) (List.range (1 + 1))).length := by
  rw [app2, Nat.zero_add]
  exact Nat.le_of_eq (by simp)
theorem cn3 (m : Id → Id) (names : List ByteArray) : ∀ i, i < names.length + (1 + 1) → (List.take names.length (List.drop 0 (renLL m (strs names))) ++ List.map (fun i => [cellsOf (AV.str sThis), cellsOf (AV.str sValue)].getD i []) (List.range (1 + 1))).getD (0 + i) [] = (fun i => [AV.lit (Value.string ((names ++ [sThis, sValue]).getD i default))]) i ∧ idfL ((fun i => [AV.lit (Value.string ((names ++ [sThis, sValue]).getD i default))]) i) = true := by
  rw [app2]
  intro i hi
  exact frz_all idfL_strs (names ++ [sThis, sValue]) i (by simpa using hi)
theorem dn1 {names : List ByteArray} (h : names = []) : 1 + 1 = (names ++ [sThis, sValue]).length := by rw [h]; rfl
theorem dn3 {names : List ByteArray} (h : names = []) : ∀ i, i < 1 + 1 → (List.map (fun i => [cellsOf (AV.str sThis), cellsOf (AV.str sValue)].getD i []) (List.range (1 + 1))).getD (0 + i) [] = (fun i => [AV.lit (Value.string ((names ++ [sThis, sValue]).getD i default))]) i ∧ idfL ((fun i => [AV.lit (Value.string ((names ++ [sThis, sValue]).getD i default))]) i) = true := by
  rw [h]
  intro i hi
  match i, hi with
  | 0, _ => exact ⟨rfl, rfl⟩
  | 1, _ => exact ⟨rfl, rfl⟩
theorem loop_reduce {p : List ByteArray → GV → P3 Nd} (hp : ParseOk p) (names : List ByteArray) (v : GV) (hnl : names.length ≤ 1000) (hg : goodM v = true) (hu : loopF p names oReduce v ≠ .unk) : PSpec cxA 178 [.lz (.gs names), .str oReduce, .agg v.cells] (retNd (loopF p names oReduce v)) := by
  generalize hr : loopF p names oReduce v = r at hu
  have g1 := get_ok v sInput
  have g2 := get_ok v sIn
  have g3 := get_ok v sInitial
  unfold loopF at hr
  refine PSpec.of_WC cxA_ok Tryz.func178 rfl Tryz.call178 (Nat.le_of_ble_eq_true rfl) (g := 1) ?_
  conv => whnf
  refine RegP.enter ?_
  conv => whnf
  refine BoxP.frz ⟨rfl, ?_⟩
  conv => whnf
  cases h5 : (v.kind != 5)
  rotate_left
  · have e : decide (v.kind = 5) = false := by simpa using h5
    rw [e] at hr
    replace hr : .no = r := hr
    subst hr
    repeat' ((first | refine RegP.enter ?_ | refine DrawP.range (by kernel_rfl) ?_ | refine BuildP.frz ⟨rfl, ?_⟩ | refine BoxP.row ?_ | refine And.intro (Nat.succ_pos _) ?_ | rw [h5] | fail); conv => whnf)
    refine Ent.of_check ?_ rfl
    conv => whnf
    (iterate 3 ((all_goals try (conv => whnf)); (repeat' first | exact ⟨⟩ | refine And.intro ?_ ?_ | rfl | exact fun _ h => h | exact .inl rfl | exact none_some | exact .inr in4 | fail)))
  have e5 : decide (v.kind = 5) = true := by simpa using h5
  cases h3 : (((v.doc.length : Nat) : Int) != 3)
  rotate_left
  · have e : decide (v.doc.length = 3) = false := by simp at h3 ⊢; omega
    rw [e5, e] at hr
    replace hr : .no = r := hr
    subst hr
    repeat' ((first | refine RegP.enter ?_ | refine DrawP.range (by kernel_rfl) ?_ | refine BuildP.frz ⟨rfl, ?_⟩ | refine BoxP.row ?_ | refine And.intro (Nat.succ_pos _) ?_ | rw [h5] | rw [h3] | fail); conv => whnf)
    refine Ent.of_check ?_ rfl
    conv => whnf
    (iterate 3 ((all_goals try (conv => whnf)); (repeat' first | exact ⟨⟩ | refine And.intro ?_ ?_ | rfl | exact fun _ h => h | exact .inl rfl | exact none_some | exact .inr in4 | fail)))
  have e3 : decide (v.doc.length = 3) = true := by simp at h3 ⊢; omega
  rw [e5, e3] at hr
  replace hr : (match v.get sInput, v.get sIn with
      | some over, some body => match p names over with
        | .unk => .unk
        | ov => match v.get sInitial with
            | none => .no
            | some first => match p names first with
              | .unk => .unk
              | .no => .no
              | .yes fi => match p (names ++ [sThis, sValue]) body, ov with
                | .unk, _ => .unk
                | .yes b, .yes o => .yes (.loop oReduce ⟨#[]⟩ o (some fi) b)
                | _, _ => .no
      | _, _ => .no) = r := hr
  cases hov : v.get sInput with
  | none =>
    rw [hov] at hr g1
    replace hr : .no = r := hr
    subst hr
    cases hbv : v.get sIn with
    | none =>
      rw [hbv] at g2
      repeat' ((first | refine RegP.enter ?_ | refine DrawP.range (by kernel_rfl) ?_ | refine BuildP.frz ⟨rfl, ?_⟩ | refine BoxP.row ?_ | refine And.intro (Nat.succ_pos _) ?_ | refine call_same (g1) rfl ?_ | refine call_same (g2) rfl ?_ | rw [h5] | rw [h3] | fail); conv => whnf)
      refine Ent.of_check ?_ rfl
      conv => whnf
      (iterate 3 ((all_goals try (conv => whnf)); (repeat' first | exact ⟨⟩ | refine And.intro ?_ ?_ | rfl | exact fun _ h => h | exact .inl rfl | exact none_some | exact .inr in4 | fail)))
    | some body =>
      rw [hbv] at g2
      repeat' ((first | refine RegP.enter ?_ | refine DrawP.range (by kernel_rfl) ?_ | refine BuildP.frz ⟨rfl, ?_⟩ | refine BoxP.row ?_ | refine And.intro (Nat.succ_pos _) ?_ | refine call_same (g1) rfl ?_ | refine call_same (g2) rfl ?_ | rw [h5] | rw [h3] | fail); conv => whnf)
      refine Ent.of_check ?_ rfl
      conv => whnf
      (iterate 3 ((all_goals try (conv => whnf)); (repeat' first | exact ⟨⟩ | refine And.intro ?_ ?_ | rfl | exact fun _ h => h | exact .inl rfl | exact none_some | exact .inr in4 | fail)))
  | some over =>
  cases hbv : v.get sIn with
  | none =>
    rw [hov] at g1
    rw [hbv] at g2
    rw [hov, hbv] at hr
    replace hr : .no = r := hr
    subst hr
    repeat' ((first | refine RegP.enter ?_ | refine DrawP.range (by kernel_rfl) ?_ | refine BuildP.frz ⟨rfl, ?_⟩ | refine BoxP.row ?_ | refine And.intro (Nat.succ_pos _) ?_ | refine call_same (g1) rfl ?_ | refine call_same (g2) rfl ?_ | rw [h5] | rw [h3] | fail); conv => whnf)
    refine Ent.of_check ?_ rfl
    conv => whnf
    (iterate 3 ((all_goals try (conv => whnf)); (repeat' first | exact ⟨⟩ | refine And.intro ?_ ?_ | rfl | exact fun _ h => h | exact .inl rfl | exact none_some | exact .inr in4 | fail)))
  | some body =>
  rw [hov] at g1
  rw [hbv] at g2
  rw [hov, hbv] at hr
  dsimp only at hr
  have hgb := get_good hbv hg
  have hpo := hp names over (get_good hov hg)
  have hclone := cloneN_ok names
  cases ho : p names over
  case unk => rw [ho] at hr; exact absurd hr.symm hu
  case' no =>
    have hlo := hpo.1 ho
    let OV : AV := .lit .nilIface
  case' yes o =>
    have hlo := hpo.2 o ho
    let OV : AV := .ifc o.ty o.val
  all_goals
    rw [ho] at hr
    dsimp only at hr
    repeat' ((first | refine RegP.enter ?_ | refine DrawP.range (by kernel_rfl) ?_ | refine BuildP.frz ⟨rfl, ?_⟩ | refine BoxP.row ?_ | refine And.intro (Nat.succ_pos _) ?_ | refine call_same (g1) rfl ?_ | refine call_same (g2) rfl ?_ | refine call_same (hlo) rfl ?_ | rw [h5] | rw [h3] | fail); conv => whnf)
    refine call_mm [] 1 54 (hclone) ?_ ?_ ?_
    · conv => whnf
      (iterate 3 ((all_goals try (conv => whnf)); (repeat' first | exact ⟨⟩ | refine And.intro ?_ ?_ | rfl | exact fun _ h => h | exact .inl rfl | exact none_some | exact .inr in4 | fail)))
    · rintro ⟨b, hb⟩
      cases b
      · conv => whnf
        (iterate 3 ((all_goals try (conv => whnf)); (repeat' first | exact ⟨⟩ | refine And.intro ?_ ?_ | rfl | exact fun _ h => h | exact .inl rfl | exact none_some | exact .inr in4 | fail)))
      · conv => whnf
        (iterate 3 ((all_goals try (conv => whnf)); (repeat' first | exact ⟨⟩ | refine And.intro ?_ ?_ | rfl | exact fun _ h => h | exact .inl rfl | exact none_some | exact .inr in4 | fail)))
    rintro ⟨b, hb⟩
    conv => whnf
    cases hsv : v.get sInitial with
    | none =>
      rw [hsv] at hr g3
      replace hr : .no = r := hr
      subst hr
      cases b
      · conv => whnf
        repeat' ((first | refine RegP.enter ?_ | refine DrawP.range (by kernel_rfl) ?_ | refine BuildP.frz ⟨rfl, ?_⟩ | refine BoxP.row ?_ | refine And.intro (Nat.succ_pos _) ?_ | refine call_same (g3) rfl ?_ | fail); conv => whnf)
        refine Ent.of_check ?_ rfl
        conv => whnf
        (iterate 3 ((all_goals try (conv => whnf)); (repeat' first | exact ⟨⟩ | refine And.intro ?_ ?_ | rfl | exact fun _ h => h | exact .inl rfl | exact none_some | exact .inr in4 | fail)))
      · conv => whnf
        repeat' ((first | refine RegP.enter ?_ | refine DrawP.range (by kernel_rfl) ?_ | refine BuildP.frz ⟨rfl, ?_⟩ | refine BoxP.row ?_ | refine And.intro (Nat.succ_pos _) ?_ | refine call_same (g3) rfl ?_ | fail); conv => whnf)
        refine Ent.of_check ?_ rfl
        conv => whnf
        (iterate 3 ((all_goals try (conv => whnf)); (repeat' first | exact ⟨⟩ | refine And.intro ?_ ?_ | rfl | exact fun _ h => h | exact .inl rfl | exact none_some | exact .inr in4 | fail)))
    | some sv =>
      rw [hsv] at hr g3
      dsimp only at hr
      have hpf := hp names sv (get_good hsv hg)
      cases hf1 : p names sv with
      | unk => rw [hf1] at hr; exact absurd hr.symm hu
      | no =>
        have hfl := hpf.1 hf1
        rw [hf1] at hr
        replace hr : .no = r := hr
        subst hr
        cases b
        · conv => whnf
          repeat' ((first | refine RegP.enter ?_ | refine DrawP.range (by kernel_rfl) ?_ | refine BuildP.frz ⟨rfl, ?_⟩ | refine BoxP.row ?_ | refine And.intro (Nat.succ_pos _) ?_ | refine call_same (g3) rfl ?_ | refine call_same (hfl) rfl ?_ | fail); conv => whnf)
          refine Ent.of_check ?_ rfl
          conv => whnf
          (iterate 3 ((all_goals try (conv => whnf)); (repeat' first | exact ⟨⟩ | refine And.intro ?_ ?_ | rfl | exact fun _ h => h | exact .inl rfl | exact none_some | exact .inr in4 | fail)))
        · conv => whnf
          repeat' ((first | refine RegP.enter ?_ | refine DrawP.range (by kernel_rfl) ?_ | refine BuildP.frz ⟨rfl, ?_⟩ | refine BoxP.row ?_ | refine And.intro (Nat.succ_pos _) ?_ | refine call_same (g3) rfl ?_ | refine call_same (hfl) rfl ?_ | fail); conv => whnf)
          refine Ent.of_check ?_ rfl
          conv => whnf
          (iterate 3 ((all_goals try (conv => whnf)); (repeat' first | exact ⟨⟩ | refine And.intro ?_ ?_ | rfl | exact fun _ h => h | exact .inl rfl | exact none_some | exact .inr in4 | fail)))
      | yes fi =>
        have hfl := hpf.2 fi hf1
        rw [hf1] at hr
        dsimp only at hr
        have hpb := hp (names ++ [sThis, sValue]) body hgb
        cases b
        · conv => whnf
          repeat' ((first | refine RegP.enter ?_ | refine DrawP.range (by kernel_rfl) ?_ | refine BuildP.frz ⟨rfl, ?_⟩ | refine BoxP.row ?_ | refine And.intro (Nat.succ_pos _) ?_ | refine call_same (g3) rfl ?_ | refine call_same (hfl) rfl ?_ | fail); conv => whnf)
          have hn : names = names := rfl
          have hren : renLL (backM [] 1 54) (strs names) = strs names := renLL_map idfL_strs _ _
          refine AppP.grow ⟨⟨by rw [hren]; simp, by simp only [R]; omega⟩, ?_⟩
          conv => whnf
          refine RegP.view ⟨[(6, .lit .nilIface), (10, .ptr (1,10,0) 0 0), (12, .ptr (1,12,0) 0 0), (13, .lz (.gs (names ++ [sThis, sValue])))], [((1,10,0), .cells 5 80 [body.cells]), ((1,12,0), .cells 5 80 [[.str oReduce, .str ⟨#[]⟩, OV, .ifc fi.ty fi.val, .lit .nilIface]])], Sub.of_check [((1,10,0), .old true (1,10,0)), ((1,12,0), .old true (1,12,0))] ?_ (by repeat' first | exact Gen0.emp | exact Gen0.ofH rfl | refine Gen0.put ?_ (by decide) | refine Gen0.put0 ?_ ⟨_, rfl⟩), ?_⟩
          · conv => whnf
            (iterate 3 ((all_goals try (conv => whnf)); (repeat' first | exact ⟨⟩ | refine And.intro ?_ ?_ | rfl | exact fun _ h => h | exact .inl rfl | exact none_some | exact .inr in4 | fail)))
            all_goals first | exact cn1 _ () | exact cn2 _ _ | exact cn3 _ _ | exact dn1 hn | exact Nat.le_refl _ | exact dn3 hn | exact leK_refl _ (idf_av _) | trace_state
          refine fun hf => ?_
          conv => whnf
          cases hb2 : p (names ++ [sThis, sValue]) body with
          | unk => rw [hb2] at hr; exact absurd hr.symm hu
          | no =>
            have hbl := hpb.1 hb2
            rw [hb2] at hr
            dsimp only at hr
            subst hr
            repeat' ((first | refine RegP.enter ?_ | refine DrawP.range (by kernel_rfl) ?_ | refine BuildP.frz ⟨rfl, ?_⟩ | refine BoxP.row ?_ | refine And.intro (Nat.succ_pos _) ?_ | refine call_same (hbl) rfl ?_ | fail); conv => whnf)
            refine Ent.of_check ?_ rfl
            conv => whnf
            (iterate 3 ((all_goals try (conv => whnf)); (repeat' first | exact ⟨⟩ | refine And.intro ?_ ?_ | rfl | exact fun _ h => h | exact .inl rfl | exact none_some | exact .inr in4 | fail)))
          | yes bN =>
            have hbl := hpb.2 bN hb2
            rw [hb2] at hr
            dsimp only at hr
            subst hr
            repeat' ((first | refine RegP.enter ?_ | refine DrawP.range (by kernel_rfl) ?_ | refine BuildP.frz ⟨rfl, ?_⟩ | refine BoxP.row ?_ | refine And.intro (Nat.succ_pos _) ?_ | refine call_same (hbl) rfl ?_ | fail); conv => whnf)
            first | refine Ent.of_check ?_ rfl | refine Ent.of_check ?_ (idf_av _)
            conv => whnf
            (iterate 3 ((all_goals try (conv => whnf)); (repeat' first | exact ⟨⟩ | refine And.intro ?_ ?_ | rfl | exact fun _ h => h | exact .inl rfl | exact none_some | exact .inr in4 | fail)))
            all_goals first | exact leK_refl _ (idf_av _) | trace_state
        · conv => whnf
          repeat' ((first | refine RegP.enter ?_ | refine DrawP.range (by kernel_rfl) ?_ | refine BuildP.frz ⟨rfl, ?_⟩ | refine BoxP.row ?_ | refine And.intro (Nat.succ_pos _) ?_ | refine call_same (g3) rfl ?_ | refine call_same (hfl) rfl ?_ | fail); conv => whnf)
          refine And.intro ((by decide)) ?_
          conv => whnf
          have hn := hb rfl
          refine RegP.view ⟨[(6, .lit .nilIface), (10, .ptr (1,10,0) 0 0), (12, .ptr (1,12,0) 0 0), (13, .lz (.gs (names ++ [sThis, sValue])))], [((1,10,0), .cells 5 80 [body.cells]), ((1,12,0), .cells 5 80 [[.str oReduce, .str ⟨#[]⟩, OV, .ifc fi.ty fi.val, .lit .nilIface]])], Sub.of_check [((1,10,0), .old true (1,10,0)), ((1,12,0), .old true (1,12,0))] ?_ (by repeat' first | exact Gen0.emp | exact Gen0.ofH rfl | refine Gen0.put ?_ (by decide) | refine Gen0.put0 ?_ ⟨_, rfl⟩), ?_⟩
          · conv => whnf
            (iterate 3 ((all_goals try (conv => whnf)); (repeat' first | exact ⟨⟩ | refine And.intro ?_ ?_ | rfl | exact fun _ h => h | exact .inl rfl | exact none_some | exact .inr in4 | fail)))
            all_goals first | exact cn1 _ () | exact cn2 _ _ | exact cn3 _ _ | exact dn1 hn | exact Nat.le_refl _ | exact dn3 hn | exact leK_refl _ (idf_av _) | trace_state
          refine fun hf => ?_
          conv => whnf
          cases hb2 : p (names ++ [sThis, sValue]) body with
          | unk => rw [hb2] at hr; exact absurd hr.symm hu
          | no =>
            have hbl := hpb.1 hb2
            rw [hb2] at hr
            dsimp only at hr
            subst hr
            repeat' ((first | refine RegP.enter ?_ | refine DrawP.range (by kernel_rfl) ?_ | refine BuildP.frz ⟨rfl, ?_⟩ | refine BoxP.row ?_ | refine And.intro (Nat.succ_pos _) ?_ | refine call_same (hbl) rfl ?_ | fail); conv => whnf)
            refine Ent.of_check ?_ rfl
            conv => whnf
            (iterate 3 ((all_goals try (conv => whnf)); (repeat' first | exact ⟨⟩ | refine And.intro ?_ ?_ | rfl | exact fun _ h => h | exact .inl rfl | exact none_some | exact .inr in4 | fail)))
          | yes bN =>
            have hbl := hpb.2 bN hb2
            rw [hb2] at hr
            dsimp only at hr
            subst hr
            repeat' ((first | refine RegP.enter ?_ | refine DrawP.range (by kernel_rfl) ?_ | refine BuildP.frz ⟨rfl, ?_⟩ | refine BoxP.row ?_ | refine And.intro (Nat.succ_pos _) ?_ | refine call_same (hbl) rfl ?_ | fail); conv => whnf)
            first | refine Ent.of_check ?_ rfl | refine Ent.of_check ?_ (idf_av _)
            conv => whnf
            (iterate 3 ((all_goals try (conv => whnf)); (repeat' first | exact ⟨⟩ | refine And.intro ?_ ?_ | rfl | exact fun _ h => h | exact .inl rfl | exact none_some | exact .inr in4 | fail)))
            all_goals first | exact leK_refl _ (idf_av _) | trace_state
/-- What parsing answers. -/
def rndAV : P3 Nd → AV
  | .yes x => x.av
  | _ => .lit .nilIface
theorem retNd_eq (r : P3 Nd) : retNd r = .ret (rndAV r) := by cases r <;> rfl
theorem idf_rnd (r : P3 Nd) : idf (rndAV r) = true := by
  cases r with
  | yes x => exact idf_av x
  | _ => rfl
theorem loop_of {p : List ByteArray → GV → P3 Nd} (hp : ParseOk p) (names : List ByteArray) {v : GV} (hg : goodM v = true) {op : ByteArray} (hop : op = oMap ∨ op = oReduce) {r : P3 Nd} (hr : (match false || !(decide (names.length ≤ 1000)) with | true => .unk | false => loopF p names op v) = r) (hu : r ≠ .unk) : PSpec cxA 178 [.lz (.gs names), .str op, .agg v.cells] (.ret (rndAV r)) := by
  cases hn : decide (names.length ≤ 1000) with
  | false => rw [hn] at hr; exact absurd hr.symm hu
  | true =>
    rw [hn] at hr
    replace hr : loopF p names op v = r := hr
    rw [← retNd_eq, ← hr]
    rcases hop with rfl | rfl
    · exact loop_map hp names v (of_decide_eq_true hn) hg (by rw [hr]; exact hu)
    · exact loop_reduce hp names v (of_decide_eq_true hn) hg (by rw [hr]; exact hu)
end Go.Eng
namespace Go.Eng
open Go.Proofs
set_option maxRecDepth 10000
theorem ParseOk.of {p : List ByteArray → GV → P3 Nd} (h : ∀ names g, goodM g = true → p names g ≠ .unk → PSpec cxA 63 [.lz (.gs names), .agg g.cells] (retNd (p names g))) : ParseOk p := by
  intro names g hg
  refine ⟨fun hx => ?_, fun x hx => ?_⟩
  · have := h names g hg (by rw [hx]; exact fun e => by cases e)
    rw [hx] at this; exact this
  · have := h names g hg (by rw [hx]; exact fun e => by cases e)
    rw [hx] at this; exact this
theorem argsOf_t {v : GV} (h : (v.kind == 6) = true) : argsOf v = v.list := by unfold argsOf; rw [h]
theorem argsOf_f {v : GV} (h : (v.kind == 6) = false) : argsOf v = [v] := by unfold argsOf; rw [h]
set_option maxHeartbeats 4000000 in
theorem pcall_ok {p : List ByteArray → GV → P3 Nd} (hp : ParseOk p) (names : List ByteArray) (op : ByteArray) (v : GV) (hg : goodM v = true) (hu : callF p names op v ≠ .unk) : PSpec cxA 118 [.lz (.gs names), .str op, .agg v.cells] (retNd (callF p names op v)) := by
  generalize hr : callF p names op v = r at hu
  unfold callF at hr
  rw [retNd_eq]
  refine PSpec.of_WC cxA_ok Tryz.func118 rfl Tryz.call118 (Nat.le_of_ble_eq_true rfl) (g := 1) ?_
  conv => whnf
  refine RegP.enter ?_
  conv => whnf
  refine BoxP.frz ⟨rfl, ?_⟩
  conv => whnf
  repeat' ((first | refine RegP.enter ?_ | refine DrawP.range (by kernel_rfl) ?_ | refine BuildP.frz ⟨rfl, ?_⟩ | refine BoxP.row ?_ | refine And.intro (Nat.succ_pos _) ?_ | fail); conv => whnf)
  refine br (fun hb => ?_) (fun hb => ?_)
  · simp only [hb] at hr
    subst hr
    try rw [hb]
    conv => whnf
    repeat' ((first | refine RegP.enter ?_ | refine DrawP.range (by kernel_rfl) ?_ | refine BuildP.frz ⟨rfl, ?_⟩ | refine BoxP.row ?_ | refine And.intro (Nat.succ_pos _) ?_ | fail); conv => whnf)
    refine Ent.of_check ?_ rfl
    conv => whnf
    (iterate 3 ((all_goals try (conv => whnf)); (repeat' first | exact ⟨⟩ | refine And.intro ?_ ?_ | rfl | exact fun _ h => h | exact .inl rfl | exact none_some | exact .inr in4 | fail)))
  have e1 : decide (op = oLiteral) = false := hb
  simp only [e1] at hr
  try rw [hb]
  conv => whnf
  repeat' ((first | refine RegP.enter ?_ | refine DrawP.range (by kernel_rfl) ?_ | refine BuildP.frz ⟨rfl, ?_⟩ | refine BoxP.row ?_ | refine And.intro (Nat.succ_pos _) ?_ | fail); conv => whnf)
  refine br (fun hb2 => ?_) (fun hb2 => ?_)
  · have e2 : decide (op = oMap) = true := hb2
    have e2' := of_decide_eq_true e2
    subst e2'
    have hl := loop_of hp names hg (.inl rfl) (r := r) (by rw [← hr]; rfl) hu
    try rw [hb2]
    conv => whnf
    repeat' ((first | refine RegP.enter ?_ | refine DrawP.range (by kernel_rfl) ?_ | refine BuildP.frz ⟨rfl, ?_⟩ | refine BoxP.row ?_ | refine And.intro (Nat.succ_pos _) ?_ | refine call_same (hl) rfl ?_ | fail); conv => whnf)
    refine Ent.of_check ?_ (idf_rnd _)
    conv => whnf
    exact leK_refl _ (idf_rnd _)
  try rw [hb2]
  conv => whnf
  repeat' ((first | refine RegP.enter ?_ | refine DrawP.range (by kernel_rfl) ?_ | refine BuildP.frz ⟨rfl, ?_⟩ | refine BoxP.row ?_ | refine And.intro (Nat.succ_pos _) ?_ | fail); conv => whnf)
  refine br (fun hb3 => ?_) (fun hb3 => ?_)
  · have e2 : decide (op = oFilter) = true := hb3
    simp only [e2, Bool.true_or, Bool.or_true] at hr
    exact absurd hr.symm hu
  try rw [hb3]
  conv => whnf
  repeat' ((first | refine RegP.enter ?_ | refine DrawP.range (by kernel_rfl) ?_ | refine BuildP.frz ⟨rfl, ?_⟩ | refine BoxP.row ?_ | refine And.intro (Nat.succ_pos _) ?_ | fail); conv => whnf)
  refine br (fun hb4 => ?_) (fun hb4 => ?_)
  · have e2 : decide (op = oReduce) = true := hb4
    have e2' := of_decide_eq_true e2
    subst e2'
    have hl := loop_of hp names hg (.inr rfl) (r := r) (by rw [← hr]; rfl) hu
    try rw [hb4]
    conv => whnf
    repeat' ((first | refine RegP.enter ?_ | refine DrawP.range (by kernel_rfl) ?_ | refine BuildP.frz ⟨rfl, ?_⟩ | refine BoxP.row ?_ | refine And.intro (Nat.succ_pos _) ?_ | refine call_same (hl) rfl ?_ | fail); conv => whnf)
    refine Ent.of_check ?_ (idf_rnd _)
    conv => whnf
    exact leK_refl _ (idf_rnd _)
  have e2 : decide (op = oMap) = false := hb2
  have e3 : decide (op = oFilter) = false := hb3
  have e4 : decide (op = oReduce) = false := hb4
  simp only [e2, e3, e4, Bool.false_or] at hr
  try rw [hb4]
  conv => whnf
  repeat' ((first | refine RegP.enter ?_ | refine DrawP.range (by kernel_rfl) ?_ | refine BuildP.frz ⟨rfl, ?_⟩ | refine BoxP.row ?_ | refine And.intro (Nat.succ_pos _) ?_ | fail); conv => whnf)
  have har := arity_ok op
  have hgL : goodL (argsOf v) = true := by
    unfold argsOf
    cases v.kind == 6
    · simp [goodL, hg]
    · exact goodM_list hg
  have hall := all_ok hp names (argsOf v) hgL
  cases hk : (v.kind == 6)
  case' false => have hA := argsOf_f hk
  case' true => have hA := argsOf_t hk
  all_goals cases hx : allF p names (argsOf v)
  case' false.unk => rw [hx] at hr; exact absurd hr.symm hu
  case' true.unk => rw [hx] at hr; exact absurd hr.symm hu
  all_goals
    rw [hx] at hr hall
    replace hall := hall (fun e => by cases e)
    rw [hA] at hall
    cases har2 : arityM op
  all_goals
    rw [arOut, har2] at har
    rw [har2] at hr
    refine call_same (har) rfl ?_
    conv => whnf
    repeat' ((first | refine RegP.enter ?_ | refine DrawP.range (by kernel_rfl) ?_ | refine BuildP.frz ⟨rfl, ?_⟩ | refine BoxP.row ?_ | refine And.intro (Nat.succ_pos _) ?_ | fail); conv => whnf)
    try rw [hk]
    conv => whnf
    repeat' ((first | refine RegP.enter ?_ | refine DrawP.range (by kernel_rfl) ?_ | refine BuildP.frz ⟨rfl, ?_⟩ | refine BoxP.row ?_ | refine And.intro (Nat.succ_pos _) ?_ | fail); conv => whnf)
    refine call_le (hall) ?_ (by rfl) (by rfl) ?_
    · (iterate 3 ((all_goals try (conv => whnf)); (repeat' first | exact ⟨⟩ | refine And.intro ?_ ?_ | rfl | exact fun _ h => h | exact .inl rfl | exact none_some | exact .inr in4 | fail)))
    conv => whnf
    repeat' ((first | refine RegP.enter ?_ | refine DrawP.range (by kernel_rfl) ?_ | refine BuildP.frz ⟨rfl, ?_⟩ | refine BoxP.row ?_ | refine And.intro (Nat.succ_pos _) ?_ | fail); conv => whnf)
  all_goals try ((try subst hr); (refine Ent.of_check ?_ rfl); (conv => whnf); ((iterate 3 ((all_goals try (conv => whnf)); (repeat' first | exact ⟨⟩ | refine And.intro ?_ ?_ | rfl | exact fun _ h => h | exact .inl rfl | exact none_some | exact .inr in4 | fail)))); done)
  all_goals
    rename_i xs ab
    obtain ⟨a, b⟩ := ab
    have hr2 : (match decide (xs.length < a) || decide (b < xs.length) with | true => P3.no | false => P3.yes (Nd.call op xs)) = r := hr
    refine br (fun h1 => ?_) (fun h1 => ?_)
    · have : xs.length < a := by simp at h1; omega
      simp only [decide_eq_true this, Bool.true_or] at hr2
      subst hr2
      try rw [h1]
      conv => whnf
      repeat' ((first | refine RegP.enter ?_ | refine DrawP.range (by kernel_rfl) ?_ | refine BuildP.frz ⟨rfl, ?_⟩ | refine BoxP.row ?_ | refine And.intro (Nat.succ_pos _) ?_ | fail); conv => whnf)
      refine Ent.of_check ?_ rfl
      conv => whnf
      (iterate 3 ((all_goals try (conv => whnf)); (repeat' first | exact ⟨⟩ | refine And.intro ?_ ?_ | rfl | exact fun _ h => h | exact .inl rfl | exact none_some | exact .inr in4 | fail)))
    try rw [h1]
    conv => whnf
    repeat' ((first | refine RegP.enter ?_ | refine DrawP.range (by kernel_rfl) ?_ | refine BuildP.frz ⟨rfl, ?_⟩ | refine BoxP.row ?_ | refine And.intro (Nat.succ_pos _) ?_ | fail); conv => whnf)
    have e5 : ¬ xs.length < a := by simp at h1; omega
    refine br (fun h2 => ?_) (fun h2 => ?_)
    · have : b < xs.length := by simp at h2; omega
      simp only [decide_eq_true this, Bool.or_true] at hr2
      subst hr2
      try rw [h2]
      conv => whnf
      repeat' ((first | refine RegP.enter ?_ | refine DrawP.range (by kernel_rfl) ?_ | refine BuildP.frz ⟨rfl, ?_⟩ | refine BoxP.row ?_ | refine And.intro (Nat.succ_pos _) ?_ | fail); conv => whnf)
      refine Ent.of_check ?_ rfl
      conv => whnf
      (iterate 3 ((all_goals try (conv => whnf)); (repeat' first | exact ⟨⟩ | refine And.intro ?_ ?_ | rfl | exact fun _ h => h | exact .inl rfl | exact none_some | exact .inr in4 | fail)))
    try rw [h2]
    conv => whnf
    repeat' ((first | refine RegP.enter ?_ | refine DrawP.range (by kernel_rfl) ?_ | refine BuildP.frz ⟨rfl, ?_⟩ | refine BoxP.row ?_ | refine And.intro (Nat.succ_pos _) ?_ | fail); conv => whnf)
    have e6 : ¬ b < xs.length := by simp at h2; omega
    simp only [decide_eq_false e5, decide_eq_false e6, Bool.or_false] at hr2
    subst hr2
    refine Ent.of_check ?_ rfl
    conv => whnf
    (iterate 3 ((all_goals try (conv => whnf)); (repeat' first | exact ⟨⟩ | refine And.intro ?_ ?_ | rfl | exact fun _ h => h | exact .inl rfl | exact none_some | exact .inr in4 | fail)))
end Go.Eng
namespace Go.Eng
open Go.Proofs
set_option maxRecDepth 10000
theorem splitM_ne {s : ByteArray} {l : List ByteArray} (h : splitM s = some l) : ∃ p ps, l = p :: ps := by
  have hl := Lib.splitB_all ⟨#[46]⟩ (by decide) 0 _ s rfl
  unfold splitM at h
  split at h
  · cases h
  split at h
  · cases h
    match hL : Lib.splitB ⟨#[46]⟩ 0 (Lib.countB s ⟨#[46]⟩) s with
    | [] => rw [hL] at hl; simp at hl
    | p :: ps => exact ⟨p, ps, rfl⟩
  · cases h
theorem prefix_size {s : ByteArray} {p : List UInt8} (h : Lib.hasPrefix s.data.toList p = true) : p.length ≤ s.size := by
  unfold Lib.hasPrefix at h
  have := List.IsPrefix.length_le (List.isPrefixOf_iff_prefix.1 h)
  simpa using this
set_option maxHeartbeats 4000000 in
theorem parse_spec : ∀ n : Nat, ParseOk (parseF n) := by
  intro n
  induction n with
  | zero => exact ParseOk.of fun names g hg hu => absurd rfl hu
  | succ n ih =>
  refine ParseOk.of fun names g hg hu => ?_
  generalize hr : parseF (n + 1) names g = r at hu
  unfold parseF at hr
  have hgt := goodM_text hg
  refine PSpec.of_WC cxA_ok Tryz.func63 rfl Tryz.call63 (Nat.le_of_ble_eq_true rfl) (g := 1) ?_
  conv => whnf
  refine RegP.enter ?_
  conv => whnf
  refine BoxP.frz ⟨rfl, ?_⟩
  conv => whnf
  repeat' ((first | refine RegP.enter ?_ | refine DrawP.range (by kernel_rfl) ?_ | refine BuildP.frz ⟨rfl, ?_⟩ | refine BoxP.row ?_ | refine And.intro (Nat.succ_pos _) ?_ | fail); conv => whnf)
  cases h4 : g.kind == 4
  rotate_left
  · conv => whnf
    repeat' ((first | refine RegP.enter ?_ | refine DrawP.range (by kernel_rfl) ?_ | refine BuildP.frz ⟨rfl, ?_⟩ | refine BoxP.row ?_ | refine And.intro (Nat.succ_pos _) ?_ | refine call_same (hasPrefix_ok _ _) rfl ?_ | fail); conv => whnf)
    cases hd2 : dol2 g.text
    rotate_left
    · simp only [h4, hd2, Bool.and_self] at hr
      rw [show Lib.hasPrefix g.text.data.toList _ = true from hd2]
      conv => whnf
      repeat' ((first | refine RegP.enter ?_ | refine DrawP.range (by kernel_rfl) ?_ | refine BuildP.frz ⟨rfl, ?_⟩ | refine BoxP.row ?_ | refine And.intro (Nat.succ_pos _) ?_ | fail); conv => whnf)
      have h2 := prefix_size hd2
      refine And.intro h2 ?_
      conv => whnf
      have hsz : (g.text.extract 2 g.text.size).size < 4294967281 := by rw [ByteArray.size_extract]; omega
      have hps := psplit_ok (g.text.extract 2 g.text.size) hsz
      cases hsp : splitM (g.text.extract 2 g.text.size) with
      | none =>
        rw [hsp] at hps hr
        refine call_same (hps) rfl ?_
        conv => whnf
        repeat' ((first | refine RegP.enter ?_ | refine DrawP.range (by kernel_rfl) ?_ | refine BuildP.frz ⟨rfl, ?_⟩ | refine BoxP.row ?_ | refine And.intro (Nat.succ_pos _) ?_ | fail); conv => whnf)
        all_goals try ((try subst hr); (refine Ent.of_check ?_ rfl); (conv => whnf); ((iterate 3 ((all_goals try (conv => whnf)); (repeat' first | exact ⟨⟩ | refine And.intro ?_ ?_ | rfl | exact fun _ h => h | exact .inl rfl | exact none_some | exact .inr in4 | fail)))); done)
      | some l =>
        obtain ⟨q, ps, rfl⟩ := splitM_ne hsp
        rw [hsp] at hps hr
        replace hr : (match decide (q = sRoot) || memB q names with | true => P3.yes (Nd.var q ps) | false => .no) = r := hr
        refine call_same (hps) rfl ?_
        conv => whnf
        repeat' ((first | refine RegP.enter ?_ | refine DrawP.range (by kernel_rfl) ?_ | refine BuildP.frz ⟨rfl, ?_⟩ | refine BoxP.row ?_ | refine And.intro (Nat.succ_pos _) ?_ | fail); conv => whnf)
        have tail : (q :: ps).length - (0 + 1) = 0 ∨ 1 = 1 ∧ 16 = 16 ∧ ∀ (i : Nat), i < (q :: ps).length - (0 + 1) → (fun i => (fun i => [AV.lit (Value.string ((q :: ps).getD i default))]) (0 + 1 + i)) i = (fun i => [AV.lit (Value.string (ps.getD i default))]) i :=
          .inr ⟨rfl, rfl, fun i _ => by show [AV.lit (Value.string ((q :: ps).getD (0 + 1 + i) default))] = _; rw [show 0 + 1 + i = i + 1 by omega]; rfl⟩
        cases hq : decide (q = sRoot)
        rotate_left
        · rw [show decide ((q :: ps).getD 0 default = _) = true from hq]
          simp only [hq, Bool.true_or] at hr
          subst hr
          conv => whnf
          repeat' ((first | refine RegP.enter ?_ | refine DrawP.range (by kernel_rfl) ?_ | refine BuildP.frz ⟨rfl, ?_⟩ | refine BoxP.row ?_ | refine And.intro (Nat.succ_pos _) ?_ | fail); conv => whnf)
          refine Ent.of_check ?_ rfl
          conv => whnf
          (iterate 3 ((all_goals try (conv => whnf)); (repeat' first | exact ⟨⟩ | refine And.intro ?_ ?_ | rfl | exact fun _ h => h | exact .inl rfl | exact none_some | exact .inr in4 | fail)))
          exact tail
        · rw [show decide ((q :: ps).getD 0 default = _) = false from hq]
          simp only [hq, Bool.false_or] at hr
          conv => whnf
          repeat' ((first | refine RegP.enter ?_ | refine DrawP.range (by kernel_rfl) ?_ | refine BuildP.frz ⟨rfl, ?_⟩ | refine BoxP.row ?_ | refine And.intro (Nat.succ_pos _) ?_ | fail); conv => whnf)
          refine call_same (containsN_ok names q) rfl ?_
          conv => whnf
          cases hm : memB q names
          · rw [hm] at hr
            conv => whnf
            repeat' ((first | refine RegP.enter ?_ | refine DrawP.range (by kernel_rfl) ?_ | refine BuildP.frz ⟨rfl, ?_⟩ | refine BoxP.row ?_ | refine And.intro (Nat.succ_pos _) ?_ | fail); conv => whnf)
            all_goals try ((try subst hr); (refine Ent.of_check ?_ rfl); (conv => whnf); ((iterate 3 ((all_goals try (conv => whnf)); (repeat' first | exact ⟨⟩ | refine And.intro ?_ ?_ | rfl | exact fun _ h => h | exact .inl rfl | exact none_some | exact .inr in4 | fail)))); done)
          · rw [hm] at hr
            conv => whnf
            repeat' ((first | refine RegP.enter ?_ | refine DrawP.range (by kernel_rfl) ?_ | refine BuildP.frz ⟨rfl, ?_⟩ | refine BoxP.row ?_ | refine And.intro (Nat.succ_pos _) ?_ | fail); conv => whnf)
            subst hr
            refine Ent.of_check ?_ rfl
            conv => whnf
            (iterate 3 ((all_goals try (conv => whnf)); (repeat' first | exact ⟨⟩ | refine And.intro ?_ ?_ | rfl | exact fun _ h => h | exact .inl rfl | exact none_some | exact .inr in4 | fail)))
            exact tail
    · simp only [h4, hd2, Bool.true_and] at hr
      rw [show Lib.hasPrefix g.text.data.toList _ = false from hd2]
      conv => whnf
      repeat' ((first | refine RegP.enter ?_ | refine DrawP.range (by kernel_rfl) ?_ | refine BuildP.frz ⟨rfl, ?_⟩ | refine BoxP.row ?_ | refine And.intro (Nat.succ_pos _) ?_ | fail); conv => whnf)
      rw [h4]
      conv => whnf
      repeat' ((first | refine RegP.enter ?_ | refine DrawP.range (by kernel_rfl) ?_ | refine BuildP.frz ⟨rfl, ?_⟩ | refine BoxP.row ?_ | refine And.intro (Nat.succ_pos _) ?_ | refine call_same (hasPrefix_ok _ _) rfl ?_ | fail); conv => whnf)
      cases hd1 : dol1 g.text
      rotate_left
      · simp only [hd1] at hr
        rw [show Lib.hasPrefix g.text.data.toList _ = true from hd1]
        conv => whnf
        repeat' ((first | refine RegP.enter ?_ | refine DrawP.range (by kernel_rfl) ?_ | refine BuildP.frz ⟨rfl, ?_⟩ | refine BoxP.row ?_ | refine And.intro (Nat.succ_pos _) ?_ | fail); conv => whnf)
        have h2 := prefix_size hd1
        refine And.intro h2 ?_
        conv => whnf
        have hsz : (g.text.extract 1 g.text.size).size < 4294967281 := by rw [ByteArray.size_extract]; omega
        have hps := psplit_ok (g.text.extract 1 g.text.size) hsz
        cases hsp : splitM (g.text.extract 1 g.text.size) with
        | none =>
          rw [hsp] at hps hr
          refine call_same (hps) rfl ?_
          conv => whnf
          repeat' ((first | refine RegP.enter ?_ | refine DrawP.range (by kernel_rfl) ?_ | refine BuildP.frz ⟨rfl, ?_⟩ | refine BoxP.row ?_ | refine And.intro (Nat.succ_pos _) ?_ | fail); conv => whnf)
          all_goals try ((try subst hr); (refine Ent.of_check ?_ rfl); (conv => whnf); ((iterate 3 ((all_goals try (conv => whnf)); (repeat' first | exact ⟨⟩ | refine And.intro ?_ ?_ | rfl | exact fun _ h => h | exact .inl rfl | exact none_some | exact .inr in4 | fail)))); done)
        | some l =>
          rw [hsp] at hps hr
          refine call_same (hps) rfl ?_
          conv => whnf
          repeat' ((first | refine RegP.enter ?_ | refine DrawP.range (by kernel_rfl) ?_ | refine BuildP.frz ⟨rfl, ?_⟩ | refine BoxP.row ?_ | refine And.intro (Nat.succ_pos _) ?_ | fail); conv => whnf)
          all_goals try ((try subst hr); (refine Ent.of_check ?_ rfl); (conv => whnf); ((iterate 3 ((all_goals try (conv => whnf)); (repeat' first | exact ⟨⟩ | refine And.intro ?_ ?_ | rfl | exact fun _ h => h | exact .inl rfl | exact none_some | exact .inr in4 | fail)))); done)
      · simp only [hd1] at hr
        rw [show Lib.hasPrefix g.text.data.toList _ = false from hd1]
        have hk4 : g.kind = 4 := by simpa using h4
        have h6 : (g.kind == 6) = false := by rw [hk4]; rfl
        have h5 : (g.kind == 5) = false := by rw [hk4]; rfl
        simp only [h6, h5] at hr
        subst hr
        conv => whnf
        repeat' ((first | refine RegP.enter ?_ | refine DrawP.range (by kernel_rfl) ?_ | refine BuildP.frz ⟨rfl, ?_⟩ | refine BoxP.row ?_ | refine And.intro (Nat.succ_pos _) ?_ | fail); conv => whnf)
        rw [h6]
        conv => whnf
        repeat' ((first | refine RegP.enter ?_ | refine DrawP.range (by kernel_rfl) ?_ | refine BuildP.frz ⟨rfl, ?_⟩ | refine BoxP.row ?_ | refine And.intro (Nat.succ_pos _) ?_ | fail); conv => whnf)
        rw [h5]
        conv => whnf
        repeat' ((first | refine RegP.enter ?_ | refine DrawP.range (by kernel_rfl) ?_ | refine BuildP.frz ⟨rfl, ?_⟩ | refine BoxP.row ?_ | refine And.intro (Nat.succ_pos _) ?_ | fail); conv => whnf)
        rw [h5]
        conv => whnf
        repeat' ((first | refine RegP.enter ?_ | refine DrawP.range (by kernel_rfl) ?_ | refine BuildP.frz ⟨rfl, ?_⟩ | refine BoxP.row ?_ | refine And.intro (Nat.succ_pos _) ?_ | fail); conv => whnf)
        refine Ent.of_check ?_ rfl
        conv => whnf
        (iterate 3 ((all_goals try (conv => whnf)); (repeat' first | exact ⟨⟩ | refine And.intro ?_ ?_ | rfl | exact fun _ h => h | exact .inl rfl | exact none_some | exact .inr in4 | fail)))
  simp only [h4, Bool.false_and] at hr
  conv => whnf
  repeat' ((first | refine RegP.enter ?_ | refine DrawP.range (by kernel_rfl) ?_ | refine BuildP.frz ⟨rfl, ?_⟩ | refine BoxP.row ?_ | refine And.intro (Nat.succ_pos _) ?_ | fail); conv => whnf)
  rw [h4]
  conv => whnf
  repeat' ((first | refine RegP.enter ?_ | refine DrawP.range (by kernel_rfl) ?_ | refine BuildP.frz ⟨rfl, ?_⟩ | refine BoxP.row ?_ | refine And.intro (Nat.succ_pos _) ?_ | fail); conv => whnf)
  cases h6 : g.kind == 6
  rotate_left
  · simp only [h6] at hr
    conv => whnf
    repeat' ((first | refine RegP.enter ?_ | refine DrawP.range (by kernel_rfl) ?_ | refine BuildP.frz ⟨rfl, ?_⟩ | refine BoxP.row ?_ | refine And.intro (Nat.succ_pos _) ?_ | fail); conv => whnf)
    have hall := all_ok ih names g.list (goodM_list hg)
    cases hx : allF (parseF n) names g.list with
    | unk => rw [hx] at hr; exact absurd hr.symm hu
    | no =>
      rw [hx] at hr hall
      refine call_same (hall (fun e => by cases e)) rfl ?_
      conv => whnf
      repeat' ((first | refine RegP.enter ?_ | refine DrawP.range (by kernel_rfl) ?_ | refine BuildP.frz ⟨rfl, ?_⟩ | refine BoxP.row ?_ | refine And.intro (Nat.succ_pos _) ?_ | fail); conv => whnf)
      all_goals try ((try subst hr); (refine Ent.of_check ?_ rfl); (conv => whnf); ((iterate 3 ((all_goals try (conv => whnf)); (repeat' first | exact ⟨⟩ | refine And.intro ?_ ?_ | rfl | exact fun _ h => h | exact .inl rfl | exact none_some | exact .inr in4 | fail)))); done)
    | yes xs =>
      rw [hx] at hr hall
      refine call_same (hall (fun e => by cases e)) rfl ?_
      conv => whnf
      repeat' ((first | refine RegP.enter ?_ | refine DrawP.range (by kernel_rfl) ?_ | refine BuildP.frz ⟨rfl, ?_⟩ | refine BoxP.row ?_ | refine And.intro (Nat.succ_pos _) ?_ | fail); conv => whnf)
      all_goals try ((try subst hr); (refine Ent.of_check ?_ rfl); (conv => whnf); ((iterate 3 ((all_goals try (conv => whnf)); (repeat' first | exact ⟨⟩ | refine And.intro ?_ ?_ | rfl | exact fun _ h => h | exact .inl rfl | exact none_some | exact .inr in4 | fail)))); done)
  simp only [h6] at hr
  conv => whnf
  repeat' ((first | refine RegP.enter ?_ | refine DrawP.range (by kernel_rfl) ?_ | refine BuildP.frz ⟨rfl, ?_⟩ | refine BoxP.row ?_ | refine And.intro (Nat.succ_pos _) ?_ | fail); conv => whnf)
  cases h5 : g.kind == 5
  · simp only [h5] at hr
    subst hr
    conv => whnf
    repeat' ((first | refine RegP.enter ?_ | refine DrawP.range (by kernel_rfl) ?_ | refine BuildP.frz ⟨rfl, ?_⟩ | refine BoxP.row ?_ | refine And.intro (Nat.succ_pos _) ?_ | fail); conv => whnf)
    rw [h5]
    conv => whnf
    repeat' ((first | refine RegP.enter ?_ | refine DrawP.range (by kernel_rfl) ?_ | refine BuildP.frz ⟨rfl, ?_⟩ | refine BoxP.row ?_ | refine And.intro (Nat.succ_pos _) ?_ | fail); conv => whnf)
    refine Ent.of_check ?_ rfl
    conv => whnf
    (iterate 3 ((all_goals try (conv => whnf)); (repeat' first | exact ⟨⟩ | refine And.intro ?_ ?_ | rfl | exact fun _ h => h | exact .inl rfl | exact none_some | exact .inr in4 | fail)))
  simp only [h5] at hr
  conv => whnf
  repeat' ((first | refine RegP.enter ?_ | refine DrawP.range (by kernel_rfl) ?_ | refine BuildP.frz ⟨rfl, ?_⟩ | refine BoxP.row ?_ | refine And.intro (Nat.succ_pos _) ?_ | fail); conv => whnf)
  have hgd := goodM_doc hg
  have hdoc : ∀ d, (docF (parseF n) names d).map Nd.docm ≠ .unk → goodD d = true → PSpec cxA 119 [.lz (.gs names), .lz (.gd d)] (retNd ((docF (parseF n) names d).map Nd.docm)) := by
    intro d h1 h2
    cases hx : docF (parseF n) names d with
    | unk => rw [hx] at h1; exact absurd rfl h1
    | no => have := document_ok ih names d h2 (by rw [hx]; exact fun e => by cases e); rw [hx] at this; exact this
    | yes xs => have := document_ok ih names d h2 (by rw [hx]; exact fun e => by cases e); rw [hx] at this; exact this
  cases h1 : ((g.doc.length : Nat) : Int) == 1
  · have hr2 : (docF (parseF n) names g.doc).map Nd.docm = r := by
      match hd : g.doc with
      | [] => rw [hd] at hr; exact hr
      | [_] => rw [hd] at h1; simp at h1
      | _ :: _ :: _ => rw [hd] at hr; exact hr
    subst hr2
    conv => whnf
    repeat' ((first | refine RegP.enter ?_ | refine DrawP.range (by kernel_rfl) ?_ | refine BuildP.frz ⟨rfl, ?_⟩ | refine BoxP.row ?_ | refine And.intro (Nat.succ_pos _) ?_ | fail); conv => whnf)
    rw [h5]
    conv => whnf
    repeat' ((first | refine RegP.enter ?_ | refine DrawP.range (by kernel_rfl) ?_ | refine BuildP.frz ⟨rfl, ?_⟩ | refine BoxP.row ?_ | refine And.intro (Nat.succ_pos _) ?_ | fail); conv => whnf)
    have hlaw := hdoc g.doc hu hgd
    cases hx : (docF (parseF n) names g.doc).map Nd.docm with
    | unk => exact absurd hx hu
    | no =>
      rw [hx] at hlaw
      refine call_same (hlaw) rfl ?_
      conv => whnf
      repeat' ((first | refine RegP.enter ?_ | refine DrawP.range (by kernel_rfl) ?_ | refine BuildP.frz ⟨rfl, ?_⟩ | refine BoxP.row ?_ | refine And.intro (Nat.succ_pos _) ?_ | fail); conv => whnf)
      refine Ent.of_check ?_ rfl
      conv => whnf
      (iterate 3 ((all_goals try (conv => whnf)); (repeat' first | exact ⟨⟩ | refine And.intro ?_ ?_ | rfl | exact fun _ h => h | exact .inl rfl | exact none_some | exact .inr in4 | fail)))
    | yes x =>
      rw [hx] at hlaw
      refine call_same (hlaw) rfl ?_
      conv => whnf
      repeat' ((first | refine RegP.enter ?_ | refine DrawP.range (by kernel_rfl) ?_ | refine BuildP.frz ⟨rfl, ?_⟩ | refine BoxP.row ?_ | refine And.intro (Nat.succ_pos _) ?_ | fail); conv => whnf)
      exact Ent.of_check (leK_refl _ (idf_av x)) (idf_av x)
  have hl1 : g.doc.length = 1 := by simp at h1; omega
  obtain ⟨m, v, hd⟩ : ∃ m v, g.doc = [(m, v)] := by
    match hd : g.doc with
    | [(m, v)] => exact ⟨m, v, rfl⟩
    | [] => rw [hd] at hl1; simp at hl1
    | _ :: _ :: _ => rw [hd] at hl1; simp at hl1
  rw [hd] at hr
  replace hr : (match decide (first0 m = 36) with | true => callF (parseF n) names m v | false => (docF (parseF n) names [(m, v)]).map .docm) = r := hr
  have hg1 : 0 < m.size ∧ goodM v = true := by rw [hd] at hgd; exact goodD_get (l := [(m, v)]) (i := 0) (by simp) hgd
  clear hgd
  obtain ⟨k, nn, t, l, d⟩ := g
  obtain rfl : d = [(m, v)] := hd
  conv => whnf
  repeat' ((first | refine RegP.enter ?_ | refine DrawP.range (by kernel_rfl) ?_ | refine BuildP.frz ⟨rfl, ?_⟩ | refine BoxP.row ?_ | refine And.intro (Nat.succ_pos _) ?_ | fail); conv => whnf)
  refine And.intro hg1.1 ?_
  conv => whnf
  rw [first_eq]
  cases h36 : decide (first0 m = 36)
  · rw [h36] at hr
    replace hr : (docF (parseF n) names [(m, v)]).map .docm = r := hr
    subst hr
    rw [show decide (first0 ((GV.mk k nn t l [(m, v)]).doc.getD 0 default).fst = 36) = false from h36]
    conv => whnf
    repeat' ((first | refine RegP.enter ?_ | refine DrawP.range (by kernel_rfl) ?_ | refine BuildP.frz ⟨rfl, ?_⟩ | refine BoxP.row ?_ | refine And.intro (Nat.succ_pos _) ?_ | fail); conv => whnf)
    rw [h5]
    conv => whnf
    repeat' ((first | refine RegP.enter ?_ | refine DrawP.range (by kernel_rfl) ?_ | refine BuildP.frz ⟨rfl, ?_⟩ | refine BoxP.row ?_ | refine And.intro (Nat.succ_pos _) ?_ | fail); conv => whnf)
    have hlaw := hdoc [(m, v)] hu (by simp [goodD, hg1])
    cases hx : (docF (parseF n) names [(m, v)]).map Nd.docm with
    | unk => exact absurd hx hu
    | no =>
      rw [hx] at hlaw
      refine call_same (hlaw) rfl ?_
      conv => whnf
      repeat' ((first | refine RegP.enter ?_ | refine DrawP.range (by kernel_rfl) ?_ | refine BuildP.frz ⟨rfl, ?_⟩ | refine BoxP.row ?_ | refine And.intro (Nat.succ_pos _) ?_ | fail); conv => whnf)
      refine Ent.of_check ?_ rfl
      conv => whnf
      (iterate 3 ((all_goals try (conv => whnf)); (repeat' first | exact ⟨⟩ | refine And.intro ?_ ?_ | rfl | exact fun _ h => h | exact .inl rfl | exact none_some | exact .inr in4 | fail)))
    | yes x =>
      rw [hx] at hlaw
      refine call_same (hlaw) rfl ?_
      conv => whnf
      repeat' ((first | refine RegP.enter ?_ | refine DrawP.range (by kernel_rfl) ?_ | refine BuildP.frz ⟨rfl, ?_⟩ | refine BoxP.row ?_ | refine And.intro (Nat.succ_pos _) ?_ | fail); conv => whnf)
      exact Ent.of_check (leK_refl _ (idf_av x)) (idf_av x)
  · rw [h36] at hr
    replace hr : callF (parseF n) names m v = r := hr
    subst hr
    rw [show decide (first0 ((GV.mk k nn t l [(m, v)]).doc.getD 0 default).fst = 36) = true from h36]
    conv => whnf
    repeat' ((first | refine RegP.enter ?_ | refine DrawP.range (by kernel_rfl) ?_ | refine BuildP.frz ⟨rfl, ?_⟩ | refine BoxP.row ?_ | refine And.intro (Nat.succ_pos _) ?_ | fail); conv => whnf)
    have hlaw := pcall_ok ih names m v hg1.2 hu
    cases hx : callF (parseF n) names m v with
    | unk => exact absurd hx hu
    | no =>
      rw [hx] at hlaw
      refine call_same (hlaw) rfl ?_
      conv => whnf
      repeat' ((first | refine RegP.enter ?_ | refine DrawP.range (by kernel_rfl) ?_ | refine BuildP.frz ⟨rfl, ?_⟩ | refine BoxP.row ?_ | refine And.intro (Nat.succ_pos _) ?_ | fail); conv => whnf)
      refine Ent.of_check ?_ rfl
      conv => whnf
      (iterate 3 ((all_goals try (conv => whnf)); (repeat' first | exact ⟨⟩ | refine And.intro ?_ ?_ | rfl | exact fun _ h => h | exact .inl rfl | exact none_some | exact .inr in4 | fail)))
    | yes x =>
      rw [hx] at hlaw
      refine call_same (hlaw) rfl ?_
      conv => whnf
      repeat' ((first | refine RegP.enter ?_ | refine DrawP.range (by kernel_rfl) ?_ | refine BuildP.frz ⟨rfl, ?_⟩ | refine BoxP.row ?_ | refine And.intro (Nat.succ_pos _) ?_ | fail); conv => whnf)
      exact Ent.of_check (leK_refl _ (idf_av x)) (idf_av x)
theorem parse_ok (n : Nat) (names : List ByteArray) (g : GV) (hg : goodM g = true) (hu : parseF n names g ≠ .unk) : PSpec cxA 63 [.lz (.gs names), .agg g.cells] (retNd (parseF n names g)) := by
  obtain ⟨h1, h2⟩ := parse_spec n names g hg
  cases hx : parseF n names g with
  | unk => exact absurd hx hu
  | no => exact h1 hx
  | yes x => exact h2 x hx
end Go.Eng
namespace Go.Eng
open Go.Proofs
set_option maxRecDepth 10000
/-- A pointer to an expression. -/
def exprAV (x : Nd) : AV := .fptr 1 1 (fun _ => [x.av]) 0 0
theorem wrong_text {k n : Int} {t : ByteArray} {l : List GV} {d : List (ByteArray × GV)} (hw : wrongM (.mk k n t l d) = false) (hs : (GV.mk k n t l d).sz ≤ 65536) : t.size ≤ 65536 := by
  have e0 : t = ⟨#[]⟩ → t.size ≤ 65536 := fun e => by rw [e]; decide
  by_cases h4 : k = 4
  · subst h4; simp [GV.sz] at hs; omega
  by_cases h7 : k = 7
  · subst h7; simp [GV.sz] at hs; omega
  by_cases h8 : k = 8
  · subst h8; simp [wrongM] at hw; omega
  refine e0 ?_
  by_cases h1 : k = 1
  · subst h1; simp [wrongM, dT, dF] at hw; exact hw.1.1.2
  by_cases h2 : k = 2
  · subst h2; simp [wrongM, dT, dF] at hw; exact hw.1.1.2
  by_cases h11 : k = 11
  · subst h11; simp [wrongM, dT, dF] at hw; exact hw.1.1.2
  by_cases h3 : k = 3
  · subst h3; simp [wrongM, dT, dF] at hw; exact hw.1.1
  by_cases h10 : k = 10
  · subst h10; simp [wrongM, dT, dF] at hw; exact hw.1.1
  by_cases h9 : k = 9
  · subst h9; simp [wrongM, dT, dF] at hw; exact hw.1.1.2
  by_cases h5 : k = 5
  · subst h5; simp [wrongM, dT, dF] at hw; exact hw.1.2
  by_cases h6 : k = 6
  · subst h6; simp [wrongM, dT, dF] at hw; exact hw.1.2
  simp [wrongM, h1, h2, h3, h4, h5, h6, h7, h8, h9, h10, h11] at hw
mutual
/- What is right is good. -/
theorem good_of_check : ∀ (g : GV) (n : Nat), g.sz ≤ 65536 → checkM n g = 0 → goodM g = true
  | .mk k i t l d, n, hs, h => by
    unfold checkM at h
    split at h
    · cases h
    split at h
    · cases h
    rename_i hw
    have hl : checkL (n + 1) l = 0 := by
      split at h
      · rename_i e; exact of_decide_eq_true e
      · exact h
    rw [decide_eq_true hl] at h
    replace h : checkD (n + 1) [] d = 0 := h
    have ht : t.size ≤ 65536 := wrong_text hw hs
    simp only [goodM, Bool.and_eq_true, decide_eq_true_eq]
    refine ⟨⟨ht, ?_⟩, ?_⟩
    · cases l with
      | nil => rfl
      | cons a l =>
        obtain rfl := wrong_list hw (by simp)
        have : (5 + szL 0 (a :: l) : Nat) ≤ 65536 := by simpa [GV.sz] using hs
        exact good_of_checkL (a :: l) 0 (n + 1) (by omega) hl
    · cases d with
      | nil => rfl
      | cons a l =>
        obtain rfl := wrong_doc hw (by simp)
        have : (5 + szD (a :: l) : Nat) ≤ 65536 := by simpa [GV.sz] using hs
        exact good_of_checkD (a :: l) [] (n + 1) (by omega) h
theorem good_of_checkL : ∀ (l : List GV) (i n : Nat), szL i l ≤ 65536 → checkL n l = 0 → goodL l = true
  | [], _, _, _, _ => rfl
  | g :: l, i, n, hs, h => by
    simp only [szL] at hs
    unfold checkL at h
    have hg : checkM n g = 0 := by
      split at h
      · rename_i e; exact of_decide_eq_true e
      · exact h
    rw [decide_eq_true hg] at h
    simp only [goodL, Bool.and_eq_true]
    exact ⟨good_of_check g n (by omega) hg, good_of_checkL l (i + 1) n (by omega) h⟩
theorem good_of_checkD : ∀ (l : List (ByteArray × GV)) (m : List ByteArray) (n : Nat), szD l ≤ 65536 → checkD n m l = 0 → goodD l = true
  | [], _, _, _, _ => rfl
  | (a, g) :: l, m, n, hs, h => by
    simp only [szD] at hs
    unfold checkD at h
    split at h
    · cases h
    rename_i hn
    have hg : checkM n g = 0 := by
      split at h
      · rename_i e; exact of_decide_eq_true e
      · exact h
    rw [decide_eq_true hg] at h
    simp only [goodD, Bool.and_eq_true, decide_eq_true_eq]
    refine ⟨⟨?_, good_of_check g n (by omega) hg⟩, good_of_checkD l (a :: m) n (by omega) h⟩
    simp only [Bool.or_eq_false_iff, Bool.not_eq_false', nameM, Bool.and_eq_true] at hn
    exact first_ne hn.2.1.1.1
end
theorem good_of_right {g : GV} (h : rightM g = 0) : goodM g = true := by
  unfold rightM at h
  split at h
  · exact good_of_check g 1 ‹_› h
  · cases h
/-- What Parse answers. -/
def pOut (n : Nat) (g : GV) : List AV := match decide (rightM g = 0) with
  | false => [.lit (.pointer none), .int (rightM g)]
  | true => match parseF n [] g with
    | .yes x => [exprAV x, .int 0]
    | _ => [.lit (.pointer none), .int 50]
theorem pparse_ok (n : Nat) (g : GV) (hu : rightM g = 0 → parseF n [] g ≠ .unk) : PSpec cxA 22 [.agg g.cells] (.ret (.tup (pOut n g))) := by
  generalize hr : pOut n g = r
  unfold pOut at hr
  refine PSpec.of_WC cxA_ok Tryz.func22 rfl Tryz.call22 (Nat.le_of_ble_eq_true rfl) (g := 1) ?_
  conv => whnf
  refine RegP.enter ?_
  conv => whnf
  refine BoxP.frz ⟨rfl, ?_⟩
  conv => whnf
  repeat' ((first | refine RegP.enter ?_ | refine DrawP.range (by kernel_rfl) ?_ | refine BuildP.frz ⟨rfl, ?_⟩ | refine BoxP.row ?_ | refine And.intro (Nat.succ_pos _) ?_ | refine call_same (right_ok g) rfl ?_ | fail); conv => whnf)
  cases h0 : (rightM g != 0)
  rotate_left
  · have : decide (rightM g = 0) = false := by simpa using h0
    simp only [this] at hr
    subst hr
    conv => whnf
    repeat' ((first | refine RegP.enter ?_ | refine DrawP.range (by kernel_rfl) ?_ | refine BuildP.frz ⟨rfl, ?_⟩ | refine BoxP.row ?_ | refine And.intro (Nat.succ_pos _) ?_ | fail); conv => whnf)
    refine Ent.of_check ?_ rfl
    conv => whnf
    (iterate 3 ((all_goals try (conv => whnf)); (repeat' first | exact ⟨⟩ | refine And.intro ?_ ?_ | rfl | exact fun _ h => h | exact .inl rfl | exact none_some | exact .inr in4 | fail)))
  have hz : rightM g = 0 := by simpa using h0
  simp only [decide_eq_true hz] at hr
  have hlaw := parse_ok n [] g (good_of_right hz) (hu hz)
  conv => whnf
  repeat' ((first | refine RegP.enter ?_ | refine DrawP.range (by kernel_rfl) ?_ | refine BuildP.frz ⟨rfl, ?_⟩ | refine BoxP.row ?_ | refine And.intro (Nat.succ_pos _) ?_ | refine call_same (clone_ok g) rfl ?_ | fail); conv => whnf)
  cases hx : parseF n [] g with
  | unk => exact absurd hx (hu hz)
  | no =>
    rw [hx] at hlaw hr
    subst hr
    refine call_le (hlaw) ?_ (by rfl) (by rfl) ?_
    · (iterate 3 ((all_goals try (conv => whnf)); (repeat' first | exact ⟨⟩ | refine And.intro ?_ ?_ | rfl | exact fun _ h => h | exact .inl rfl | exact none_some | exact .inr in4 | fail)))
    conv => whnf
    repeat' ((first | refine RegP.enter ?_ | refine DrawP.range (by kernel_rfl) ?_ | refine BuildP.frz ⟨rfl, ?_⟩ | refine BoxP.row ?_ | refine And.intro (Nat.succ_pos _) ?_ | fail); conv => whnf)
    refine Ent.of_check ?_ rfl
    conv => whnf
    (iterate 3 ((all_goals try (conv => whnf)); (repeat' first | exact ⟨⟩ | refine And.intro ?_ ?_ | rfl | exact fun _ h => h | exact .inl rfl | exact none_some | exact .inr in4 | fail)))
  | yes x =>
    rw [hx] at hlaw hr
    subst hr
    refine call_le (hlaw) ?_ (by rfl) (by rfl) ?_
    · (iterate 3 ((all_goals try (conv => whnf)); (repeat' first | exact ⟨⟩ | refine And.intro ?_ ?_ | rfl | exact fun _ h => h | exact .inl rfl | exact none_some | exact .inr in4 | fail)))
    conv => whnf
    refine RegP.enter ?_
    conv => whnf
    refine RegP.enter ?_
    conv => whnf
    refine BoxP.frz ⟨by simp [idfL, idf.idfL, cellsOf, idf_av], ?_⟩
    conv => whnf
    refine Ent.of_check ?_ rfl
    conv => whnf
    (iterate 3 ((all_goals try (conv => whnf)); (repeat' first | exact ⟨⟩ | refine And.intro ?_ ?_ | rfl | exact fun _ h => h | exact .inl rfl | exact none_some | exact .inr in4 | fail)))
end Go.Eng

/- Eng24: an engine for the program's code, and walks of its functions (Xe Xf Xg Pl Pm Xh). -/
import Derived.Test.YtlcepambcoobgaaGreatDoorEng23
namespace Go.Eng
open Go.Proofs Go.RowKit Go.Extern.Stop Go.Stop Go.Extern
set_option maxRecDepth 10000
theorem ntmps132 : Tryz.f132.ntmps = 14 := rfl
theorem body132 : Tryz.f132.body = some ((firstOf Tryz.f132.body).seq (behind Tryz.f132.body)) := rfl
theorem first132 : ∃ id o, firstOf Tryz.f132.body = .region id #[o] false ∧ o.dst = some 5 ∧ o.guard = none ∧ ∀ (ρ : Operand → Value) (w : World), (execOp ρ o).run Tryz.prog w = .ok .recover w := ⟨_, _, rfl, rfl, rfl, fun _ _ => rfl⟩
theorem caught {w : World} {μ : Id → Option Loc} {F : Nat → Prop} {p q x : Value} (e : Int) (hH : HRep w μ F (ofH (evalH gZero 0))) (hG : GOK cxA w F) (hp : Rep w μ F (.ptr (0,4,0) 0 0) p) (hq : Rep w μ F (.ptr (0,5,0) 0 0) q) (hx : Rep w μ F (stopAV e) x) :
    CallsD Tryz.prog 132 #[p, q] (.panicking [{ v := x, recovered := false }]) w (fun en u' w' => (∃ vv, en = .returned vv) ∧ settle u' = .returning ∧ ∃ μ' F', HRep w' μ' F' (ofH (evalH gZero e)) ∧ GOK cxA w' F' ∧ FrB w μ F (ofH (evalH gZero 0)) w' μ' F' (ofH (evalH gZero e))) := by
  refine callsD_of_wpS Tryz.func132 body132 fun c₀ cs hu => ?_
  obtain ⟨id, o, h1, h2, h3, h4⟩ := first132
  rw [h1]
  refine wpS_seq (wpS_region ?_)
  have hw : Region.wanted o (yielded #[o] ({ tmps := #[p, q] ++ Array.replicate (Tryz.f132.ntmps - (#[p, q] : Array Value).size) undef, defers := [] } : Act).tmps) = true := by
    unfold Region.wanted; rw [h3]
  show wpOpsS Tryz.prog #[o] _ [0] _ _ _
  unfold wpOpsS
  simp only [List.getElem?_toArray, List.getElem?_cons_zero]
  rw [if_pos hw, h4]
  simp only [recoverD, hu, wpOpsS, Exit.thenS, h2]
  have s := entry_sim (cx := cxA) (nt := 14) false hH hG (All2.cons hp (All2.cons hq All2.nil)) (by decide)
  have s1 := s.put (d := 5) (by decide) hx hH hG ⟨rfl, rfl, rfl, Nat.le_refl _, fun _ _ _ => rfl, fun _ _ h => h, fun _ h => h, fun _ h => .inl h, fun _ h => .inr h⟩
  refine wpS_of_wp (wp_mono (WC_sound cxA_ok _ (.inr rfl) 1 _ _ _ (catch_walk e) _ _ _ _ s1) ?_)
  rintro en a' w' ⟨ae, T, H, μ', F', ⟨rfl, hsub⟩, s', hr⟩
  cases hr
  obtain ⟨μ2, F2, s2⟩ := s'.sub hsub
  obtain ⟨vv, _, hrun, _, _⟩ := EndK_ret cxA_ok (fn := Tryz.f132) (K := fun _ _ => True) s2 (by exact trivial)
  exact ⟨s2.d.e rfl, _, rfl, vv, hrun, ⟨_, rfl⟩, rfl, μ2, F2, s2.h, s2.g, s2.f⟩
theorem idle {w : World} {μ : Id → Option Loc} {F : Nat → Prop} {p q : Value} (v : GV) (e : Int) (hH : HRep w μ F (ofH (evalH v e))) (hG : GOK cxA w F) (hp : Rep w μ F (.ptr (0,4,0) 0 0) p) (hq : Rep w μ F (.ptr (0,5,0) 0 0) q) :
    CallsD Tryz.prog 132 #[p, q] .returning w (fun en u' w' => (∃ vv, en = .returned vv) ∧ settle u' = .returning ∧ ∃ μ' F', HRep w' μ' F' (ofH (evalH v e)) ∧ GOK cxA w' F' ∧ FrB w μ F (ofH (evalH v e)) w' μ' F' (ofH (evalH v e))) := by
  refine callsD_of_wpS Tryz.func132 body132 fun c₀ cs hu => ?_
  obtain ⟨id, o, h1, h2, h3, h4⟩ := first132
  rw [h1]
  refine wpS_seq (wpS_region ?_)
  have hw : Region.wanted o (yielded #[o] ({ tmps := #[p, q] ++ Array.replicate (Tryz.f132.ntmps - (#[p, q] : Array Value).size) undef, defers := [] } : Act).tmps) = true := by
    unfold Region.wanted; rw [h3]
  show wpOpsS Tryz.prog #[o] _ [0] _ _ _
  unfold wpOpsS
  simp only [List.getElem?_toArray, List.getElem?_cons_zero]
  rw [if_pos hw, h4]
  simp only [recoverD, hu, wpOpsS, Exit.thenS, h2]
  have s := entry_sim (cx := cxA) (nt := 14) false hH hG (All2.cons hp (All2.cons hq All2.nil)) (by decide)
  have s1 := s.put (d := 5) (av := .lit .nilIface) (v := .nilIface) (by decide) (.frz (.lit (show Plain .nilIface from trivial))) hH hG ⟨rfl, rfl, rfl, Nat.le_refl _, fun _ _ _ => rfl, fun _ _ h => h, fun _ h => h, fun _ h => .inl h, fun _ h => .inr h⟩
  refine wpS_of_wp (wp_mono (WC_sound cxA_ok _ (.inr rfl) 1 _ _ _ (idle_walk v e) _ _ _ _ s1) ?_)
  rintro en a' w' ⟨ae, T, H, μ', F', ⟨rfl, hsub⟩, s', hr⟩
  cases hr
  obtain ⟨μ2, F2, s2⟩ := s'.sub hsub
  obtain ⟨vv, _, hrun, _, _⟩ := EndK_ret cxA_ok (fn := Tryz.f132) (K := fun _ _ => True) s2 (by exact trivial)
  exact ⟨s2.d.e rfl, .returning, by cases c₀; simp_all, vv, hrun, ⟨_, rfl⟩, rfl, μ2, F2, s2.h, s2.g, s2.f⟩
end Go.Eng
namespace Go.Eng
open Go.Proofs Go.RowKit Go.Extern.Stop Go.Stop Go.Extern
set_option maxRecDepth 10000
theorem body69 : Tryz.f69.body = some ((firstOf Tryz.f69.body).seq ((secondOf Tryz.f69.body).seq (restOf Tryz.f69.body))) := rfl
theorem second69 : ∃ id o1 o2, secondOf Tryz.f69.body = .region id #[o1, o2] false ∧ o1.dst = some 7 ∧ o1.guard = none ∧ o2.dst = none ∧ o2.guard = none ∧
    (∀ (a : Act) (w : World), (execOp a.eval o1).run Tryz.prog w = .ok (.value (.func (.func 132) #[] #[a.tmps.getD 4 undef, a.tmps.getD 5 undef])) w) ∧
    (∀ (a : Act) (w : World) (p q : Value), a.tmps.getD 7 undef = .func (.func 132) #[] #[p, q] → (execOp a.eval o2).run Tryz.prog w = .ok (.defer { target := .fn (.func 132) #[p, q], args := #[] }) w) := by
  refine ⟨_, _, _, rfl, rfl, rfl, rfl, rfl, fun a w => ?_, fun a w p q h => ?_⟩
  · have hmf : ∀ (fn : Fn) (first cap : Array Value) (w : World), (Instr.makeFunc fn first cap).run Tryz.prog w = .ok (.func fn first cap) w := fun _ _ _ _ => rfl
    simp [execOp, Act.eval, hmf, Sem.run_bind]
  show (resolve a.eval _ _ >>= fun d => pure (.defer d) : Sem Next).run Tryz.prog w = _
  simp only [resolve, Act.eval, h]
  simp [Deferred.ofValue, Sem.run_bind, go_sem]
def outR : Rs GV → GV × Int
  | .ok g _ => (g, 0)
  | .fail n _ => (gZero, n)
  | .unk => (gZero, 0)
theorem FrB.refl (w : World) (μ : Id → Option Loc) (F : Nat → Prop) (H : HH) : FrB w μ F H w μ F H := ⟨rfl, rfl, rfl, Nat.le_refl _, fun _ _ _ => rfl, fun _ _ _ h => h, fun _ h => h, fun _ h => .inl h, fun _ h => .inr h⟩
theorem ptr_mono {w w' : World} {μ μ' : Id → Option Loc} {F F' : Nat → Prop} {r : Id} {i j : Nat} {v : Value} (h : Rep w μ F (.ptr r i j) v) (hm : ∀ l, μ r = some l → μ' r = some l) : Rep w' μ' F' (.ptr r i j) v := by
  cases h with
  | frz h => cases h
  | ptr h1 h2 => exact .ptr (hm _ h1) h2
theorem eval_fin {w w1 w' w'' : World} {F F1 F3 F5 : Nat → Prop} {μ1 μ3 μ5 : Id → Option Loc} {H1 : HH} {a' : Act} {ds : List Deferred} {v0 v : GV} {e0 e : Int}
    (f1 : FrB w (fun _ => none) F HH.emp w1 μ1 F1 H1) (s4 : SimX cxA 18 ⟨w1, μ1, F1, H1, ds, false⟩ (ofL evalT) (ofH (evalH v0 e0)) a' w' μ3 F3) (h5 : HRep w'' μ5 F5 (ofH (evalH v e))) (g5 : GOK cxA w'' F5) (f5 : FrB w' μ3 F3 (ofH (evalH v0 e0)) w'' μ5 F5 (ofH (evalH v e))) :
    ∃ x, (results Tryz.f69 a'.tmps).run Tryz.prog w'' = .ok x w'' ∧ ∃ F', EndF w'' F' (.ret (.tup [.agg v.cells, .int e])) (.returned x) ∧ FrF w F w'' F' := by
  have s6 : SimX cxA 18 ⟨w'', μ5, F5, ofH (evalH v e), a'.defers, false⟩ (ofL evalT) (ofH (evalH v e)) a' w'' μ5 F5 := by
    refine ⟨h5, g5, fun t av ht => ?_, s4.b, s4.n, Marks.none (E := ⟨w'', μ5, F5, ofH (evalH v e), a'.defers, false⟩), .refl _ _ _ _⟩
    have ht' := ht
    simp only [evalT, ofL] at ht
    by_cases e5 : t = 4
    · subst e5
      have h4 := s4.t 4 _ ht'
      rw [TT.put_same] at ht
      cases ht
      exact ptr_mono h4 fun l h => f5.mu _ _ rfl h
    · rw [TT.put_ne _ _ e5] at ht
      by_cases e6 : t = 5
      · subst e6
        have h4 := s4.t 5 _ ht'
        rw [TT.put_same] at ht
        cases ht
        exact ptr_mono h4 fun l h => f5.mu _ _ rfl h
      · rw [TT.put_ne _ _ e6] at ht
        cases ht
  obtain ⟨x, av, hrun, hK, hrep⟩ := EndK_ret cxA_ok s6 (eval_end v e)
  have f := f1.trans (s4.f.trans f5)
  have nl : ∀ b, ¬ Lv (fun _ => none) HH.emp b := fun b ⟨r, row, l, h, _⟩ => by cases h
  refine ⟨x, hrun, fun b => F5 b ∨ Lv μ5 (ofH (evalH v e)) b, .ret (hK _ _ _ _ h5 hrep), f.os, f.tape, f.output, f.size, fun b hb => f.keep b hb (nl b), fun b hb => ?_, fun b hb => hb.elim (h5.lt b) h5.row_lt⟩
  rcases hb with hb | hb
  · exact (f.fr' b hb).elim .inl fun h => h.elim .inr fun h => absurd h (nl b)
  · exact (f.lv b hb).elim .inr fun h => absurd h (nl b)
theorem eval_ok {ev : Nd → GV → List (ByteArray × GV) → Int → Rs GV} (hev : EvOk ev) (x : Nd) (doc : GV) (hu : stepF ev x doc [] 0 ≠ .unk) :
    PSpec cxA 69 [exprAV x, .agg doc.cells] (.ret (.tup [.agg (outR (stepF ev x doc [] 0)).1.cells, .int (outR (stepF ev x doc [] 0)).2])) := by
  intro w F vs hF hG ha
  have hwalk := eval_walk hev x doc hu
  generalize stepF ev x doc [] 0 = r at *
  have h0 := HRep.emp (w := w) hF
  have ha' : All2 (Rep w (fun _ => none) F) [exprAV x, .agg doc.cells] vs := ha.imp fun _ _ h => .frz h
  unfold CallsX
  have hc : (callFunc 69 ⟨vs⟩).run cxA.P w = .ok (.enter 69 ⟨vs⟩) w := Tryz.call69 _ w
  rw [hc]
  show Calls Tryz.prog 69 ⟨vs⟩ w _
  refine calls_of_wp_defers Tryz.func69 body69 ?_
  refine wp_seq (wp_mono (WC_sound cxA_ok _ (.inr rfl) 0 _ _ _ hwalk _ _ _ _ (entry_sim false h0 hG ha' (by show 2 ≤ 18; decide))) ?_)
  rintro e1 a1 w1 ⟨ae, T1, H1, μ1, F1, ⟨rfl, t4, t5, t7, hrest⟩, s1, hr1⟩
  cases hr1
  show (Code.seq (secondOf Tryz.f69.body) (restOf Tryz.f69.body)).wp _ _ a1 w1
  obtain ⟨id, o1, o2, g1, g2, g3, g4, g5, g6, g7⟩ := second69
  rw [g1]
  refine wp_seq (wp_region ?_)
  show wpOps Tryz.prog #[o1, o2] _ [0, 1] a1 w1
  have hw1 : ∀ a : Act, Region.wanted o1 (yielded #[o1, o2] a.tmps) = true := fun a => by unfold Region.wanted; rw [g3]
  have hw2 : ∀ a : Act, Region.wanted o2 (yielded #[o1, o2] a.tmps) = true := fun a => by unfold Region.wanted; rw [g5]
  have hsz : a1.tmps.size = 18 := s1.n
  let p := a1.tmps.getD 4 undef
  let q := a1.tmps.getD 5 undef
  have hp : Rep w1 μ1 F1 (.ptr (0,4,0) 0 0) p := s1.t 4 _ t4
  have hq : Rep w1 μ1 F1 (.ptr (0,5,0) 0 0) q := s1.t 5 _ t5
  unfold wpOps
  simp only [List.getElem?_toArray, List.getElem?_cons_zero]
  rw [if_pos (hw1 _)]
  refine .inl ?_
  unfold Oper.wp
  rw [g6]
  simp only [Oper.upon, g2]
  unfold wpOps
  simp only [List.getElem?_toArray, List.getElem?_cons_succ, List.getElem?_cons_zero]
  rw [if_pos (hw2 _)]
  refine .inl ?_
  unfold Oper.wp
  rw [g7 _ _ p q (by simp [Act.put, hsz, p, q])]
  simp only [Oper.upon, g4]
  unfold wpOps
  show (restOf Tryz.f69.body).wp _ _ _ w1
  have s2 : SimX cxA 18 ⟨w1, μ1, F1, H1, [{ target := .fn (.func 132) #[p, q], args := #[] }], false⟩ T1 H1 ({ a1.put (some 7) (.func (.func 132) #[] #[p, q]) with defers := { target := .fn (.func 132) #[p, q], args := #[] } :: (a1.put (some 7) (.func (.func 132) #[] #[p, q])).defers } : Act) w1 μ1 F1 := by
    refine ⟨s1.h, s1.g, fun t av ht => ?_, s1.b, by simp [Act.put, hsz], ?_, .refl _ _ _ _⟩
    rotate_left
    · have e : ({ a1.put (some 7) (.func (.func 132) #[] #[p, q]) with defers := { target := .fn (.func 132) #[p, q], args := #[] } :: (a1.put (some 7) (.func (.func 132) #[] #[p, q])).defers } : Act).defers = [{ target := .fn (.func 132) #[p, q], args := #[] }] := by
        show _ :: a1.defers = _
        rw [s1.d.e rfl]
      rw [e]; exact Marks.none (E := ⟨w1, μ1, F1, H1, [{ target := .fn (.func 132) #[p, q], args := #[] }], false⟩)
    · have hne : t ≠ 7 := fun e => by subst e; rw [t7] at ht; cases ht
      have := put_getD a1 7 (.func (.func 132) #[] #[p, q]) (by rw [hsz]; decide) t
      rw [if_neg hne] at this
      show Rep w1 μ1 F1 av ((a1.put (some 7) _).tmps.getD t undef)
      rw [this]
      exact s1.t t av ht
  refine wp_mono (WC_sound cxA_ok _ (.inr rfl) 1 _ _ _ hrest _ _ _ _ s2) ?_
  rintro e2 a' w' ⟨ae, T2, H2, μ2, F2, hk, s3, hr⟩
  have hinv : ∀ w, (invoke (.fn (.func 132) #[p, q]) #[]).run Tryz.prog w = .ok (.enter 132 #[p, q]) w := fun w => Tryz.call132 _ w
  cases r with
  | unk => exact hk.elim
  | ok g k =>
    obtain ⟨rfl, hsub⟩ := hk
    cases hr
    obtain ⟨μ3, F3, s4⟩ := s3.sub hsub
    show Leaves Tryz.prog Tryz.f69 a'.tmps _ a'.defers .returning w'
    rw [s4.d.e rfl]
    refine leaves_cons (f := 132) (args := #[p, q]) (by simp) (hinv _) ((idle g 0 s4.h s4.g (ptr_mono hp fun l h => s4.f.mu _ _ rfl h) (ptr_mono hq fun l h => s4.f.mu _ _ rfl h)).mono ?_)
    rintro en u' w'' ⟨⟨vv, rfl⟩, hset, μ5, F5, h5, g5, f5⟩
    show Leaves Tryz.prog Tryz.f69 a'.tmps _ [] (settle u') w''
    rw [hset]
    exact eval_fin s1.f s4 h5 g5 f5
  | fail n k =>
    obtain ⟨rfl, hsub⟩ := hk
    cases hr
    rename_i xv hxv
    obtain ⟨μ3, F3, s4⟩ := s3.sub hsub
    show Leaves Tryz.prog Tryz.f69 a'.tmps _ a'.defers (.panicking [{ v := xv, recovered := false }]) w'
    rw [s4.d.e rfl]
    have hx : Rep w' μ3 F3 (stopAV n) xv := by
      have hf := idf_frz hxv (show idf (stopAV n) = true from rfl)
      cases hf with
      | ifc h =>
        cases h with
        | agg h1 h2 =>
          refine .frz (.ifc (.agg h1 fun i hi hi' => ?_))
          have h3 := h2 i hi hi'
          have hi0 : i = 0 := by have : i < 1 := hi; omega
          subst hi0
          obtain ⟨he, hpl⟩ := RepF_lit h3
          have := he ▸ h3
          rw [he]
          exact .lit hpl
    refine leaves_cons (f := 132) (args := #[p, q]) (by simp) (hinv _) ((caught n s4.h s4.g (ptr_mono hp fun l h => s4.f.mu _ _ rfl h) (ptr_mono hq fun l h => s4.f.mu _ _ rfl h) hx).mono ?_)
    rintro en u' w'' ⟨⟨vv, rfl⟩, hset, μ5, F5, h5, g5, f5⟩
    show Leaves Tryz.prog Tryz.f69 a'.tmps _ [] (settle u') w''
    rw [hset]
    exact eval_fin s1.f s4 h5 g5 f5
end Go.Eng
namespace Go.Eng
open Go.Proofs
set_option maxRecDepth 10000
theorem work_yes {n : Nat} {ev : Nd → GV → List (ByteArray × GV) → Int → Rs GV} (hev : EvOk ev) {g doc : GV} {x : Nd} (hr : rightM g = 0) (hp : parseF n [] g = .yes x) (hu : stepF ev x doc [] 0 ≠ .unk) :
    PSpec cxA 26 [.agg g.cells, .agg doc.cells] (.ret (.tup [.agg (outR (stepF ev x doc [] 0)).1.cells, .int (outR (stepF ev x doc [] 0)).2])) := by
  have h1 := pparse_ok n g (fun _ => by rw [hp]; simp)
  have e : pOut n g = [exprAV x, .int 0] := by unfold pOut; rw [decide_eq_true hr, hp]
  rw [e] at h1
  have h2 := eval_ok hev x doc hu
  generalize outR (stepF ev x doc [] 0) = r at *
  obtain ⟨v, e⟩ := r
  refine PSpec.of_WC cxA_ok Tryz.func26 rfl Tryz.call26 (Nat.le_of_ble_eq_true rfl) (g := 1) ?_
  conv => whnf
  refine RegP.enter ?_
  conv => whnf
  refine BoxP.frz ⟨rfl, ?_⟩
  conv => whnf
  refine BoxP.frz ⟨rfl, ?_⟩
  conv => whnf
  repeat' ((first | refine RegP.enter ?_ | refine DrawP.range (by kernel_rfl) ?_ | refine BuildP.frz ⟨rfl, ?_⟩ | refine BoxP.row ?_ | refine And.intro (Nat.succ_pos _) ?_ | refine call_same (h1) rfl ?_ | fail); conv => whnf)
  refine call_le (h2) ?_ (by rfl) (by rfl) ?_
  · (iterate 3 ((all_goals try (conv => whnf)); (repeat' first | exact ⟨⟩ | refine And.intro ?_ ?_ | rfl | exact fun _ h => h | exact .inl rfl | exact none_some | exact .inr in4 | fail)))
    all_goals trace_state
  conv => whnf
  repeat' ((first | refine RegP.enter ?_ | refine DrawP.range (by kernel_rfl) ?_ | refine BuildP.frz ⟨rfl, ?_⟩ | refine BoxP.row ?_ | refine And.intro (Nat.succ_pos _) ?_ | fail); conv => whnf)
  refine Ent.of_check ?_ rfl
  conv => whnf
  (iterate 3 ((all_goals try (conv => whnf)); (repeat' first | exact ⟨⟩ | refine And.intro ?_ ?_ | rfl | exact fun _ h => h | exact .inl rfl | exact none_some | exact .inr in4 | fail)))
theorem work_no {n : Nat} {g doc : GV} (hr : rightM g = 0) (hp : parseF n [] g = .no) :
    PSpec cxA 26 [.agg g.cells, .agg doc.cells] (.ret (.tup [.agg gZero.cells, .int 50])) := by
  have h1 := pparse_ok n g (fun _ => by rw [hp]; simp)
  have e : pOut n g = [.lit (.pointer none), .int 50] := by unfold pOut; rw [decide_eq_true hr, hp]
  rw [e] at h1
  refine PSpec.of_WC cxA_ok Tryz.func26 rfl Tryz.call26 (Nat.le_of_ble_eq_true rfl) (g := 1) ?_
  conv => whnf
  refine RegP.enter ?_
  conv => whnf
  refine BoxP.frz ⟨rfl, ?_⟩
  conv => whnf
  refine BoxP.frz ⟨rfl, ?_⟩
  conv => whnf
  repeat' ((first | refine RegP.enter ?_ | refine DrawP.range (by kernel_rfl) ?_ | refine BuildP.frz ⟨rfl, ?_⟩ | refine BoxP.row ?_ | refine And.intro (Nat.succ_pos _) ?_ | refine call_same (h1) rfl ?_ | fail); conv => whnf)
  refine Ent.of_check ?_ rfl
  conv => whnf
  (iterate 3 ((all_goals try (conv => whnf)); (repeat' first | exact ⟨⟩ | refine And.intro ?_ ?_ | rfl | exact fun _ h => h | exact .inl rfl | exact none_some | exact .inr in4 | fail)))
/-- What the program's 'whole' answers. -/
def wholeOut (r : GV × Int) : List AV := [.int r.1.int, .bool (decide (r.2 = 0) && decide (r.1.kind = 3))]
theorem whole_ok {op : ByteArray} {a b : Int} {r : GV × Int} (hw : PSpec cxA 26 [.agg (gCall op [gInt a, gInt b]).cells, .agg gZero.cells] (.ret (.tup [.agg r.1.cells, .int r.2]))) :
    PSpec cxA 30 [.str op, .int a, .int b] (.ret (.tup (wholeOut r))) := by
  have hc := call_ok op [gInt a, gInt b]
  obtain ⟨v, e⟩ := r
  generalize hr : wholeOut (v, e) = u
  unfold wholeOut at hr
  refine PSpec.of_WC cxA_ok Tryz.func30 rfl Tryz.call30 (Nat.le_of_ble_eq_true rfl) (g := 1) ?_
  conv => whnf
  repeat' ((first | refine RegP.enter ?_ | refine DrawP.range (by kernel_rfl) ?_ | refine BuildP.frz ⟨rfl, ?_⟩ | refine BoxP.row ?_ | refine And.intro (Nat.succ_pos _) ?_ | refine call_same (int_ok a) rfl ?_ | refine call_same (int_ok b) rfl ?_ | fail); conv => whnf)
  refine call_le (hc) ?_ (by rfl) (by rfl) ?_
  · (iterate 3 ((all_goals try (conv => whnf)); (repeat' first | exact ⟨⟩ | refine And.intro ?_ ?_ | rfl | exact fun _ h => h | exact .inl rfl | exact none_some | exact .inr in4 | fail)))
    all_goals trace_state
  conv => whnf
  refine call_le (hw) ?_ (by rfl) (by rfl) ?_
  · (iterate 3 ((all_goals try (conv => whnf)); (repeat' first | exact ⟨⟩ | refine And.intro ?_ ?_ | rfl | exact fun _ h => h | exact .inl rfl | exact none_some | exact .inr in4 | fail)))
    all_goals trace_state
  conv => whnf
  repeat' ((first | refine RegP.enter ?_ | refine DrawP.range (by kernel_rfl) ?_ | refine BuildP.frz ⟨rfl, ?_⟩ | refine BoxP.row ?_ | refine And.intro (Nat.succ_pos _) ?_ | fail); conv => whnf)
  cases h0 : (e == 0)
  · have h0' : decide (e = 0) = false := by simpa using h0
    simp only [h0', Bool.false_and] at hr
    subst hr
    conv => whnf
    repeat' ((first | refine RegP.enter ?_ | refine DrawP.range (by kernel_rfl) ?_ | refine BuildP.frz ⟨rfl, ?_⟩ | refine BoxP.row ?_ | refine And.intro (Nat.succ_pos _) ?_ | fail); conv => whnf)

    refine Ent.of_check ?_ rfl
    conv => whnf
    (iterate 3 ((all_goals try (conv => whnf)); (repeat' first | exact ⟨⟩ | refine And.intro ?_ ?_ | rfl | exact fun _ h => h | exact .inl rfl | exact none_some | exact .inr in4 | fail)))
  · have h0' : decide (e = 0) = true := by simpa using h0
    simp only [h0', Bool.true_and] at hr
    subst hr
    conv => whnf
    repeat' ((first | refine RegP.enter ?_ | refine DrawP.range (by kernel_rfl) ?_ | refine BuildP.frz ⟨rfl, ?_⟩ | refine BoxP.row ?_ | refine And.intro (Nat.succ_pos _) ?_ | fail); conv => whnf)

    refine Ent.of_check ?_ rfl
    conv => whnf
    (iterate 3 ((all_goals try (conv => whnf)); (repeat' first | exact ⟨⟩ | refine And.intro ?_ ?_ | rfl | exact fun _ h => h | exact .inl rfl | exact none_some | exact .inr in4 | fail)))
end Go.Eng
/- Sums: what work comes to. -/
namespace Go.Eng
open Go.Proofs
set_option maxRecDepth 20000
def two (op : ByteArray) (a b : Int) : Nd := .call op [.lit (gInt a), .lit (gInt b)]
theorem sz_two {op : ByteArray} (ho : op.size ≤ 100) (a b : Int) : (gCall op [gInt a, gInt b]).sz ≤ 65536 := by
  have h0 := Lib.itoa_length_le ((0 : Nat) : Int) (by decide) (by decide)
  have h1 := Lib.itoa_length_le ((1 : Nat) : Int) (by decide) (by decide)
  simp [gCall, gDoc, gList, gInt, GV.sz, szD, szL] at *
  omega
set_option maxHeartbeats 4000000 in
theorem sz_three {op : ByteArray} (ho : op.size ≤ 100) (a b c : Int) : (gCall op [gInt a, gInt b, gInt c]).sz ≤ 65536 := by
  have h0 := Lib.itoa_length_le ((0 : Nat) : Int) (by decide) (by decide)
  have h1 := Lib.itoa_length_le ((1 : Nat) : Int) (by decide) (by decide)
  have h2 := Lib.itoa_length_le ((2 : Nat) : Int) (by decide) (by decide)
  simp [gCall, gDoc, gList, gInt, GV.sz, szD, szL] at *
  omega
def numP (n : Int) : GV × Int := match inInt n with | true => (gInt n, 0) | false => (gZero, 52)
def wOut (n : Int) (ok : Bool) : List AV := match ok with | true => [.int n, .bool true] | false => [.int 0, .bool false]
theorem wOut_num (n : Int) : wholeOut (numP n) = wOut n (inInt n) := by
  unfold numP wOut
  cases inInt n <;> rfl
theorem work_two {op : ByteArray} {a b : Int} {doc : GV} {r : GV × Int} (hr : rightM (gCall op [gInt a, gInt b]) = 0) (hp : parseF 3 [] (gCall op [gInt a, gInt b]) = .yes (two op a b)) (he : ∃ q, stepF (evalP OI 2) (two op a b) doc [] 0 = q ∧ q ≠ .unk ∧ outR q = r) :
    PSpec cxA 26 [.agg (gCall op [gInt a, gInt b]).cells, .agg doc.cells] (.ret (.tup [.agg r.1.cells, .int r.2])) := by
  obtain ⟨q, h1, h2, h3⟩ := he
  have := work_yes (evalI_ok 2) (doc := doc) hr hp (by rw [h1]; exact h2)
  rw [h1, h3] at this
  exact this
def behindS (r : Rs GV) : Rs GV := match r with | .unk => .unk | .fail e k => .fail e k | .ok g k => withinM g k
theorem behind_num (n k : Int) : behindS (numM n k) ≠ .unk ∧ outR (behindS (numM n k)) = numP n := by
  unfold numM numP
  cases inInt n
  · exact ⟨by simp [behindS], rfl⟩
  · exact ⟨by show (Rs.ok (gInt n) k : Rs GV) ≠ .unk; simp, rfl⟩
theorem sum_num (a b k : Int) : numR (sumL a [gInt b] k) = numM (a + b) k := by
  show numR (match inInt (a + b) with | true => .ok (a + b) k | false => .fail 52 k) = _
  unfold numM
  cases inInt (a + b) <;> rfl
theorem mul_num (a b k : Int) : numR (mulL a [gInt b] k) = numM (a * b) k := by
  show numR (match inInt (a * b) with | true => .ok (a * b) k | false => .fail 52 k) = _
  unfold numM
  cases inInt (a * b) <;> rfl
theorem all_two {a b : Int} (ha : inInt a = true) (hb : inInt b = true) : (allKind 3 [gInt a, gInt b] && [gInt a, gInt b].all (fun g => inInt g.int)) = true := by
  show ((true && (true && true)) && (inInt a && (inInt b && true))) = true
  rw [ha, hb]; rfl
theorem right_Add (a b : Int) : rightM (gCall oAdd [gInt a, gInt b]) = 0 := by
  unfold rightM
  rw [if_pos (sz_two (by decide) a b)]
  rfl
theorem parse_Add (a b : Int) : parseF 3 [] (gCall oAdd [gInt a, gInt b]) = .yes (two oAdd a b) := by rfl
theorem step_Add (a b : Int) (doc : GV) : stepF (evalP OI 2) (two oAdd a b) doc [] 0 = behindS (strictI oAdd [gInt a, gInt b] 3) := by rfl
theorem right_Subtract (a b : Int) : rightM (gCall oSubtract [gInt a, gInt b]) = 0 := by
  unfold rightM
  rw [if_pos (sz_two (by decide) a b)]
  rfl
theorem parse_Subtract (a b : Int) : parseF 3 [] (gCall oSubtract [gInt a, gInt b]) = .yes (two oSubtract a b) := by rfl
theorem step_Subtract (a b : Int) (doc : GV) : stepF (evalP OI 2) (two oSubtract a b) doc [] 0 = behindS (strictI oSubtract [gInt a, gInt b] 3) := by rfl
theorem right_Multiply (a b : Int) : rightM (gCall oMultiply [gInt a, gInt b]) = 0 := by
  unfold rightM
  rw [if_pos (sz_two (by decide) a b)]
  rfl
theorem parse_Multiply (a b : Int) : parseF 3 [] (gCall oMultiply [gInt a, gInt b]) = .yes (two oMultiply a b) := by rfl
theorem step_Multiply (a b : Int) (doc : GV) : stepF (evalP OI 2) (two oMultiply a b) doc [] 0 = behindS (strictI oMultiply [gInt a, gInt b] 3) := by rfl
theorem right_Divide (a b : Int) : rightM (gCall oDivide [gInt a, gInt b]) = 0 := by
  unfold rightM
  rw [if_pos (sz_two (by decide) a b)]
  rfl
theorem parse_Divide (a b : Int) : parseF 3 [] (gCall oDivide [gInt a, gInt b]) = .yes (two oDivide a b) := by rfl
theorem step_Divide (a b : Int) (doc : GV) : stepF (evalP OI 2) (two oDivide a b) doc [] 0 = behindS (strictI oDivide [gInt a, gInt b] 3) := by rfl
theorem right_Mod (a b : Int) : rightM (gCall oMod [gInt a, gInt b]) = 0 := by
  unfold rightM
  rw [if_pos (sz_two (by decide) a b)]
  rfl
theorem parse_Mod (a b : Int) : parseF 3 [] (gCall oMod [gInt a, gInt b]) = .yes (two oMod a b) := by rfl
theorem step_Mod (a b : Int) (doc : GV) : stepF (evalP OI 2) (two oMod a b) doc [] 0 = behindS (strictI oMod [gInt a, gInt b] 3) := by rfl
theorem strict_Add {a b : Int} (ha : inInt a = true) (hb : inInt b = true) : strictI oAdd [gInt a, gInt b] 3 = numM (a + b) 3 := by
  unfold strictI
  rw [all_two ha hb, ← sum_num]
  rfl
theorem strict_Subtract {a b : Int} (ha : inInt a = true) (hb : inInt b = true) : strictI oSubtract [gInt a, gInt b] 3 = numM (a - b) 3 := by
  unfold strictI
  rw [all_two ha hb]
  rfl
theorem strict_Multiply {a b : Int} (ha : inInt a = true) (hb : inInt b = true) : strictI oMultiply [gInt a, gInt b] 3 = numM (a * b) 3 := by
  unfold strictI
  rw [all_two ha hb, ← mul_num]
  rfl
theorem strict_Divide {a b : Int} (ha : inInt a = true) (hb : inInt b = true) : strictI oDivide [gInt a, gInt b] 3 = (match decide (b = 0) with | true => .fail 53 3 | false => numM (a.tdiv b) 3) := by
  unfold strictI
  rw [all_two ha hb]
  rfl
theorem strict_Mod {a b : Int} (ha : inInt a = true) (hb : inInt b = true) : strictI oMod [gInt a, gInt b] 3 = (match decide (b = 0) with | true => .fail 53 3 | false => .ok (gInt (a.tmod b)) 3) := by
  unfold strictI
  rw [all_two ha hb]
  rfl
theorem work_Add {a b : Int} (ha : inInt a = true) (hb : inInt b = true) (doc : GV) : PSpec cxA 26 [.agg (gCall oAdd [gInt a, gInt b]).cells, .agg doc.cells] (.ret (.tup [.agg (numP (a + b)).1.cells, .int (numP (a + b)).2])) :=
  work_two (right_Add a b) (parse_Add a b) ⟨_, step_Add a b doc, by rw [strict_Add ha hb]; exact behind_num _ 3⟩
theorem whole_Add {a b : Int} (ha : inInt a = true) (hb : inInt b = true) : PSpec cxA 30 [.str oAdd, .int a, .int b] (.ret (.tup (wOut (a + b) (inInt (a + b))))) := by
  have := whole_ok (work_Add ha hb gZero)
  rw [wOut_num] at this
  exact this
theorem work_Subtract {a b : Int} (ha : inInt a = true) (hb : inInt b = true) (doc : GV) : PSpec cxA 26 [.agg (gCall oSubtract [gInt a, gInt b]).cells, .agg doc.cells] (.ret (.tup [.agg (numP (a - b)).1.cells, .int (numP (a - b)).2])) :=
  work_two (right_Subtract a b) (parse_Subtract a b) ⟨_, step_Subtract a b doc, by rw [strict_Subtract ha hb]; exact behind_num _ 3⟩
theorem whole_Subtract {a b : Int} (ha : inInt a = true) (hb : inInt b = true) : PSpec cxA 30 [.str oSubtract, .int a, .int b] (.ret (.tup (wOut (a - b) (inInt (a - b))))) := by
  have := whole_ok (work_Subtract ha hb gZero)
  rw [wOut_num] at this
  exact this
theorem work_Multiply {a b : Int} (ha : inInt a = true) (hb : inInt b = true) (doc : GV) : PSpec cxA 26 [.agg (gCall oMultiply [gInt a, gInt b]).cells, .agg doc.cells] (.ret (.tup [.agg (numP (a * b)).1.cells, .int (numP (a * b)).2])) :=
  work_two (right_Multiply a b) (parse_Multiply a b) ⟨_, step_Multiply a b doc, by rw [strict_Multiply ha hb]; exact behind_num _ 3⟩
theorem whole_Multiply {a b : Int} (ha : inInt a = true) (hb : inInt b = true) : PSpec cxA 30 [.str oMultiply, .int a, .int b] (.ret (.tup (wOut (a * b) (inInt (a * b))))) := by
  have := whole_ok (work_Multiply ha hb gZero)
  rw [wOut_num] at this
  exact this
theorem work_Divide {a b : Int} (ha : inInt a = true) (hb : inInt b = true) (h0 : ¬ b = 0) (doc : GV) : PSpec cxA 26 [.agg (gCall oDivide [gInt a, gInt b]).cells, .agg doc.cells] (.ret (.tup [.agg (numP (a.tdiv b)).1.cells, .int (numP (a.tdiv b)).2])) :=
  work_two (right_Divide a b) (parse_Divide a b) ⟨_, step_Divide a b doc, by rw [strict_Divide ha hb, decide_eq_false h0]; exact behind_num _ 3⟩
theorem whole_Divide {a b : Int} (ha : inInt a = true) (hb : inInt b = true) (h0 : ¬ b = 0) : PSpec cxA 30 [.str oDivide, .int a, .int b] (.ret (.tup (wOut (a.tdiv b) (inInt (a.tdiv b))))) := by
  have := whole_ok (work_Divide ha hb h0 gZero)
  rw [wOut_num] at this
  exact this
theorem whole_Divide0 {a b : Int} (ha : inInt a = true) (hb : inInt b = true) (h0 : b = 0) : PSpec cxA 30 [.str oDivide, .int a, .int b] (.ret (.tup (wOut 0 false))) :=
  whole_ok (r := (gZero, 53)) (work_two (right_Divide a b) (parse_Divide a b) ⟨_, step_Divide a b gZero, by rw [strict_Divide ha hb, decide_eq_true h0]; exact ⟨by simp [behindS], rfl⟩⟩)
theorem whole_Mod {a b : Int} (ha : inInt a = true) (hb : inInt b = true) (h0 : ¬ b = 0) : PSpec cxA 30 [.str oMod, .int a, .int b] (.ret (.tup (wOut (a.tmod b) true))) :=
  whole_ok (r := (gInt (a.tmod b), 0)) (work_two (right_Mod a b) (parse_Mod a b) ⟨_, step_Mod a b gZero, by rw [strict_Mod ha hb, decide_eq_false h0]; exact ⟨by show (Rs.ok (gInt (a.tmod b)) 3 : Rs GV) ≠ .unk; simp, rfl⟩⟩)
theorem whole_Mod0 {a b : Int} (ha : inInt a = true) (hb : inInt b = true) (h0 : b = 0) : PSpec cxA 30 [.str oMod, .int a, .int b] (.ret (.tup (wOut 0 false))) :=
  whole_ok (r := (gZero, 53)) (work_two (right_Mod a b) (parse_Mod a b) ⟨_, step_Mod a b gZero, by rw [strict_Mod ha hb, decide_eq_true h0]; exact ⟨by simp [behindS], rfl⟩⟩)
/-! The greatest of three. -/
def three (op : ByteArray) (a b c : Int) : Nd := .call op [.lit (gInt a), .lit (gInt b), .lit (gInt c)]
theorem right_Max (a b c : Int) : rightM (gCall oMax [gInt a, gInt b, gInt c]) = 0 := by
  unfold rightM
  rw [if_pos (sz_three (by decide) a b c)]
  rfl
theorem parse_Max (a b c : Int) : parseF 3 [] (gCall oMax [gInt a, gInt b, gInt c]) = .yes (three oMax a b c) := by rfl
def maxI (a b c : Int) : Int := max (max a b) c
theorem maxV_int (a b c : Int) : maxV (gInt a) [gInt b, gInt c] = gInt (maxI a b c) := by
  show maxV (match decide (a < b) with | true => gInt b | false => gInt a) [gInt c] = _
  unfold maxI
  by_cases h : a < b
  · rw [decide_eq_true h]
    show (match decide (b < c) with | true => gInt c | false => gInt b) = _
    by_cases h2 : b < c
    · rw [decide_eq_true h2]; exact congrArg gInt (by simp only [Int.max_def]; repeat' split <;> omega)
    · rw [decide_eq_false h2]; exact congrArg gInt (by simp only [Int.max_def]; repeat' split <;> omega)
  · rw [decide_eq_false h]
    show (match decide (a < c) with | true => gInt c | false => gInt a) = _
    by_cases h2 : a < c
    · rw [decide_eq_true h2]; exact congrArg gInt (by simp only [Int.max_def]; repeat' split <;> omega)
    · rw [decide_eq_false h2]; exact congrArg gInt (by simp only [Int.max_def]; repeat' split <;> omega)
theorem step_Max (a b c : Int) (doc : GV) : stepF (evalP OI 2) (three oMax a b c) doc [] 0 = withinM (maxV (gInt a) [gInt b, gInt c]) 4 := by rfl
theorem work_Max (a b c : Int) (doc : GV) : PSpec cxA 26 [.agg (gCall oMax [gInt a, gInt b, gInt c]).cells, .agg doc.cells] (.ret (.tup [.agg (gInt (maxI a b c)).cells, .int 0])) := by
  have hs := step_Max a b c doc
  rw [maxV_int] at hs
  have hs : stepF (evalP OI 2) (three oMax a b c) doc [] 0 = .ok (gInt (maxI a b c)) 4 := hs
  have := work_yes (evalI_ok 2) (doc := doc) (right_Max a b c) (parse_Max a b c) (by rw [hs]; simp)
  rw [hs] at this
  exact this
end Go.Eng
/- The document's examples. -/
namespace Go.Eng
open Go.Proofs
set_option maxRecDepth 20000
abbrev tA : ByteArray := ⟨#[97]⟩
abbrev tDA : ByteArray := ⟨#[36, 97]⟩
abbrev tD : ByteArray := ⟨#[36]⟩
abbrev tBig : ByteArray := ⟨#[98, 105, 103]⟩
def docA : GV := gDoc tA (gInt 5)
def ex1 : GV := gCall oAdd [gText tDA, gInt 1]
def ex4 : GV := gCall oCond [gCall oGt [gText tDA, gInt 3], gText tBig, gCall oDivide [gInt 1, gInt 0]]
theorem sz_ex1 : ex1.sz ≤ 65536 := by
  have h0 := Lib.itoa_length_le ((0 : Nat) : Int) (by decide) (by decide)
  have h1 := Lib.itoa_length_le ((1 : Nat) : Int) (by decide) (by decide)
  have e : ex1.sz = 5 + (2 + 4 + (5 + (2 + (Lib.itoa ((0 : Nat) : Int)).length + (5 + 2) + (2 + (Lib.itoa ((1 : Nat) : Int)).length + 8 + 0))) + 0) := by rfl
  omega
theorem right_ex1 : rightM ex1 = 0 := by
  unfold rightM
  rw [if_pos sz_ex1]
  rfl
theorem parse_ex1 : parseF 3 [] ex1 = .yes (.call oAdd [.fld [tA], .lit (gInt 1)]) := by rfl
theorem step_ex1 : stepF (evalP OI 2) (.call oAdd [.fld [tA], .lit (gInt 1)]) docA [] 0 = .ok (gInt 6) 3 := by rfl
theorem right_ex3 : rightM (gText tD) = 0 := by rfl
theorem parse_ex3 : parseF 3 [] (gText tD) = .no := by rfl
theorem sz_ex4 : ex4.sz ≤ 65536 := by
  have h0 := Lib.itoa_length_le ((0 : Nat) : Int) (by decide) (by decide)
  have h1 := Lib.itoa_length_le ((1 : Nat) : Int) (by decide) (by decide)
  have h2 := Lib.itoa_length_le ((2 : Nat) : Int) (by decide) (by decide)
  have e1 : (gCall oGt [gText tDA, gInt 3]).sz = 5 + (2 + 3 + (5 + (2 + (Lib.itoa ((0 : Nat) : Int)).length + (5 + 2) + (2 + (Lib.itoa ((1 : Nat) : Int)).length + 8 + 0))) + 0) := by rfl
  have e2 : (gCall oDivide [gInt 1, gInt 0]).sz = 5 + (2 + 7 + (5 + (2 + (Lib.itoa ((0 : Nat) : Int)).length + 8 + (2 + (Lib.itoa ((1 : Nat) : Int)).length + 8 + 0))) + 0) := by rfl
  have e : ex4.sz = 5 + (2 + 5 + (5 + (2 + (Lib.itoa ((0 : Nat) : Int)).length + (gCall oGt [gText tDA, gInt 3]).sz + (2 + (Lib.itoa ((1 : Nat) : Int)).length + (5 + 3) + (2 + (Lib.itoa ((2 : Nat) : Int)).length + (gCall oDivide [gInt 1, gInt 0]).sz + 0)))) + 0) := by rfl
  omega
theorem right_ex4 : rightM ex4 = 0 := by
  unfold rightM
  rw [if_pos sz_ex4]
  rfl
def nd4 : Nd := .call oCond [.call oGt [.fld [tA], .lit (gInt 3)], .lit (gText tBig), .call oDivide [.lit (gInt 1), .lit (gInt 0)]]
theorem parse_ex4 : parseF 4 [] ex4 = .yes nd4 := by rfl
theorem step_ex4 : ∃ k, stepF (evalP OI 4) nd4 docA [] 0 = .ok (gText tBig) k := ⟨_, rfl⟩
theorem work_ex1 : PSpec cxA 26 [.agg ex1.cells, .agg docA.cells] (.ret (.tup [.agg (gInt 6).cells, .int 0])) := by
  have := work_yes (evalI_ok 2) (doc := docA) right_ex1 parse_ex1 (by rw [step_ex1]; simp)
  rw [step_ex1] at this
  exact this
theorem work_ex2 : PSpec cxA 26 [.agg (gCall oDivide [gInt (-7), gInt 2]).cells, .agg docA.cells] (.ret (.tup [.agg (gInt (-3)).cells, .int 0])) :=
  work_Divide (a := -7) (b := 2) (by decide) (by decide) (by decide) docA
theorem work_ex3 : PSpec cxA 26 [.agg (gText tD).cells, .agg docA.cells] (.ret (.tup [.agg gZero.cells, .int 50])) := work_no right_ex3 parse_ex3
theorem work_ex4 : PSpec cxA 26 [.agg ex4.cells, .agg docA.cells] (.ret (.tup [.agg (gText tBig).cells, .int 0])) := by
  obtain ⟨k, hk⟩ := step_ex4
  have := work_yes (evalI_ok 4) (doc := docA) right_ex4 parse_ex4 (by rw [hk]; simp)
  rw [hk] at this
  exact this
end Go.Eng
namespace Go.Eng
open Go.Proofs
set_option maxRecDepth 20000
set_option maxHeartbeats 2000000
theorem awake_ok : PSpec cxA 20 [] (.ret (.bool true)) := by
  refine PSpec.of_WC cxA_ok Tryz.func20 rfl Tryz.call20 (Nat.le_of_ble_eq_true rfl) (g := 1) ?_
  conv => whnf
  repeat' ((first | refine RegP.enter ?_ | refine DrawP.range (by kernel_rfl) ?_ | refine BuildP.frz ⟨rfl, ?_⟩ | refine BoxP.row ?_ | refine And.intro (Nat.succ_pos _) ?_ | refine call_same (int_ok 5) rfl ?_ | refine call_same (doc_ok tA (gInt 5)) rfl ?_ | refine call_same (text_ok tDA) rfl ?_ | refine call_same (int_ok 1) rfl ?_ | fail); conv => whnf)
  refine call_le (call_ok oAdd [gText tDA, gInt 1]) ?_ (by rfl) (by rfl) ?_
  · (iterate 3 ((all_goals try (conv => whnf)); (repeat' first | exact ⟨⟩ | refine And.intro ?_ ?_ | rfl | exact fun _ h => h | exact .inl rfl | exact none_some | exact .inr in4 | fail)))
    all_goals trace_state
  conv => whnf
  repeat' ((first | refine RegP.enter ?_ | refine DrawP.range (by kernel_rfl) ?_ | refine BuildP.frz ⟨rfl, ?_⟩ | refine BoxP.row ?_ | refine And.intro (Nat.succ_pos _) ?_ | refine call_same (work_ex1) rfl ?_ | refine call_same (int_ok (-7)) rfl ?_ | refine call_same (int_ok 2) rfl ?_ | fail); conv => whnf)
  refine call_le (call_ok oDivide [gInt (-7), gInt 2]) ?_ (by rfl) (by rfl) ?_
  · (iterate 3 ((all_goals try (conv => whnf)); (repeat' first | exact ⟨⟩ | refine And.intro ?_ ?_ | rfl | exact fun _ h => h | exact .inl rfl | exact none_some | exact .inr in4 | fail)))
    all_goals trace_state
  conv => whnf
  repeat' ((first | refine RegP.enter ?_ | refine DrawP.range (by kernel_rfl) ?_ | refine BuildP.frz ⟨rfl, ?_⟩ | refine BoxP.row ?_ | refine And.intro (Nat.succ_pos _) ?_ | refine call_same (work_ex2) rfl ?_ | refine call_same (text_ok tD) rfl ?_ | refine call_same (work_ex3) rfl ?_ | refine call_same (text_ok tDA) rfl ?_ | refine call_same (int_ok 3) rfl ?_ | fail); conv => whnf)
  refine call_le (call_ok oGt [gText tDA, gInt 3]) ?_ (by rfl) (by rfl) ?_
  · (iterate 3 ((all_goals try (conv => whnf)); (repeat' first | exact ⟨⟩ | refine And.intro ?_ ?_ | rfl | exact fun _ h => h | exact .inl rfl | exact none_some | exact .inr in4 | fail)))
    all_goals trace_state
  conv => whnf
  repeat' ((first | refine RegP.enter ?_ | refine DrawP.range (by kernel_rfl) ?_ | refine BuildP.frz ⟨rfl, ?_⟩ | refine BoxP.row ?_ | refine And.intro (Nat.succ_pos _) ?_ | refine call_same (text_ok tBig) rfl ?_ | refine call_same (int_ok 1) rfl ?_ | refine call_same (int_ok 0) rfl ?_ | fail); conv => whnf)
  refine call_le (call_ok oDivide [gInt 1, gInt 0]) ?_ (by rfl) (by rfl) ?_
  · (iterate 3 ((all_goals try (conv => whnf)); (repeat' first | exact ⟨⟩ | refine And.intro ?_ ?_ | rfl | exact fun _ h => h | exact .inl rfl | exact none_some | exact .inr in4 | fail)))
    all_goals trace_state
  conv => whnf
  repeat' ((first | refine RegP.enter ?_ | refine DrawP.range (by kernel_rfl) ?_ | refine BuildP.frz ⟨rfl, ?_⟩ | refine BoxP.row ?_ | refine And.intro (Nat.succ_pos _) ?_ | fail); conv => whnf)
  refine call_le (call_ok oCond [gCall oGt [gText tDA, gInt 3], gText tBig, gCall oDivide [gInt 1, gInt 0]]) ?_ (by rfl) (by rfl) ?_
  · (iterate 3 ((all_goals try (conv => whnf)); (repeat' first | exact ⟨⟩ | refine And.intro ?_ ?_ | rfl | exact fun _ h => h | exact .inl rfl | exact none_some | exact .inr in4 | fail)))
    all_goals trace_state
  conv => whnf
  repeat' ((first | refine RegP.enter ?_ | refine DrawP.range (by kernel_rfl) ?_ | refine BuildP.frz ⟨rfl, ?_⟩ | refine BoxP.row ?_ | refine And.intro (Nat.succ_pos _) ?_ | refine call_same (work_ex4) rfl ?_ | fail); conv => whnf)
  refine Ent.of_check ?_ rfl
  conv => whnf
  (iterate 3 ((all_goals try (conv => whnf)); (repeat' first | exact ⟨⟩ | refine And.intro ?_ ?_ | rfl | exact fun _ h => h | exact .inl rfl | exact none_some | exact .inr in4 | fail)))
end Go.Eng

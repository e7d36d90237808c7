/- Loops0: an engine for the program's code, and walks of its functions (Bk Lk Ll Lm). -/
import Derived.Test.YtlcepambcoobgaaGreatDoorEng23
import Derived.Test.YtlcepambcoobgaaGreatDoorEng10
import Derived.Test.YtlcepambcoobgaaGreatDoorEng20
namespace Go.Eng
open Go.Proofs
set_option maxRecDepth 10000
def sq1 : Code → Code | .seq a _ => a | c => c
def sq2 : Code → Code | .seq _ b => b | c => c
def blkC : Code → Code | .block _ c => c | c => c
def lpC : Code → Code | .loop c => c | c => c
def opsC : Code → Array Oper | .region _ o _ => o | _ => #[]
def allT (T : TT) : List (Nat × AV) → Prop
  | [] => True
  | (k, v) :: l => T k = some v ∧ allT T l
theorem ofL_le {T : TT} : ∀ {TL : List (Nat × AV)}, allT T TL → ∀ t av, ofL TL t = some av → T t = some av
  | [], _, t, av, h => by cases h
  | (k, v) :: l, h, t, av, ht => by
    unfold ofL at ht
    by_cases e : t = k
    · subst e; rw [TT.put_same] at ht; cases ht; exact h.1
    · rw [TT.put_ne _ _ e] at ht; exact ofL_le h.2 t av ht
theorem gen0_ofL : ∀ {TL : List (Nat × AV)}, (TL.all fun p => gen0 p.2) = true → ∀ t av, ofL TL t = some av → gen0 av = true
  | [], _, t, av, h => by cases h
  | (k, v) :: l, h, t, av, ht => by
    simp only [List.all_cons, Bool.and_eq_true] at h
    unfold ofL at ht
    by_cases e : t = k
    · subst e; rw [TT.put_same] at ht; cases ht; exact h.1
    · rw [TT.put_ne _ _ e] at ht; exact gen0_ofL h.2 t av ht
noncomputable def b428 : Code := Tryz.f428.body.getD .skip
noncomputable def lp428 : Code := lpC (blkC (sq2 b428))
noncomputable def reg428 : Array Oper := opsC (sq1 (blkC (sq1 (sq2 lp428))))
theorem body428 : Tryz.f428.body = some (.seq (sq1 b428) (.block 0 (.loop (.seq (sq1 lp428) (.seq (.block 1 (.seq (.region 3 reg428 false) (sq2 (blkC (sq1 (sq2 lp428)))))) (sq2 (sq2 lp428))))))) := rfl
theorem split428 : ∃ o : Oper, reg428.toList = reg428.toList.take 6 ++ o :: reg428.toList.drop 7 ∧ o.guard = none ∧ o.op = .call ⟨.value (.tmp 11), #[.tmp 12, .tmp 16], #[3, 30]⟩ ∧ o.dst = some 17 := ⟨_, rfl, rfl, rfl, rfl⟩
/-- What slices.Backward hands on. -/
def backX (l : List GV) : List (List AV) := (List.range l.length).map fun j => [.int ((l.length - 1 - j : Nat) : Int), .agg (l.getD (l.length - 1 - j) default).cells]
theorem backX_get {l : List GV} {j : Nat} (h : j < l.length) : (backX l)[j]? = some [.int ((l.length - 1 - j : Nat) : Int), .agg (l.getD (l.length - 1 - j) default).cells] := by
  unfold backX
  rw [List.getElem?_map, List.getElem?_range h]; rfl
def backP (l : List GV) : AV := .fptr 1 1 (fun _ => [.lz (.gl l)]) 0 0
def backTL (y : Nat) (l : List GV) (v : Int) : List (Nat × AV) := [(0, .clo (.yield y) [] []), (1, backP l), (3, .int v)]
theorem back0 (y : Nat) (l : List GV) (hl : l.length ≤ R) (H : HH) : WC cxA 19 1 (sq1 b428) (argT 0 [.clo (.yield y) [] [], backP l]) H (fun e T H' => e = .normal ∧ H' = H ∧ allT T (backTL y l ((l.length : Int) - 1))) := by
  have hw : IntKind.i64.wrap ((l.length : Int) - 1) = (l.length : Int) - 1 := by simp only [R] at hl; exact wrap64 (by omega) (by omega)
  conv => whnf
  repeat' ((first | refine RegP.enter ?_ | refine DrawP.range (by kernel_rfl) ?_ | refine BuildP.frz ⟨rfl, ?_⟩ | refine BoxP.row ?_ | refine And.intro (Nat.succ_pos _) ?_ | fail); conv => whnf)
  refine ⟨rfl, rfl, rfl, rfl, ?_, trivial⟩
  show some _ = some _
  rw [hw]
theorem back1 (y : Nat) (l : List GV) (v : Int) (H : HH) : WC cxA 19 1 (sq1 lp428) (ofL (backTL y l v)) H (fun e T H' => H' = H ∧ allT T (backTL y l v) ∧ match e with | .normal => 0 ≤ v | .exit i => i = 0 ∧ v < 0 | _ => False) := by
  conv => whnf
  repeat' ((first | refine RegP.enter ?_ | refine DrawP.range (by kernel_rfl) ?_ | refine BuildP.frz ⟨rfl, ?_⟩ | refine BoxP.row ?_ | refine And.intro (Nat.succ_pos _) ?_ | fail); conv => whnf)
  refine br (fun h => ?_) (fun h => ?_)
  · try rw [h]
    conv => whnf
    exact ⟨rfl, ⟨rfl, rfl, rfl, trivial⟩, of_decide_eq_true h⟩
  · try rw [h]
    conv => whnf
    exact ⟨rfl, ⟨rfl, rfl, rfl, trivial⟩, rfl, by have := of_decide_eq_false h; omega⟩
theorem back3 (y : Nat) (l : List GV) (i : Nat) (hi : i < l.length) (H : HH) : W cxA 19 1 (fun _ => false) reg428 0 (reg428.toList.take 6) (ofL (backTL y l (i : Int))) H (fun T' H' => H' = H ∧ ev cxA T' (.tmp 11) = some (.clo (.yield y) [] []) ∧ evs cxA T' [.tmp 12, .tmp 16] (fun l' => EntSL l' [.int (i : Int), .agg (l.getD i default).cells]) ∧ ∀ t av, ofL (backTL y l (i : Int)) t = some av → T' t = some av) (fun _ _ _ => False) := by
  conv => whnf
  repeat' ((first | refine RegP.enter ?_ | refine DrawP.range (by kernel_rfl) ?_ | refine BuildP.frz ⟨rfl, ?_⟩ | refine BoxP.row ?_ | refine And.intro (Nat.succ_pos _) ?_ | fail); conv => whnf)
  refine And.intro (hi) ?_
  conv => whnf
  refine And.intro (hi) ?_
  conv => whnf
  repeat' ((first | refine RegP.enter ?_ | refine DrawP.range (by kernel_rfl) ?_ | refine BuildP.frz ⟨rfl, ?_⟩ | refine BoxP.row ?_ | refine And.intro (Nat.succ_pos _) ?_ | fail); conv => whnf)
  refine ⟨rfl, rfl, ⟨EntS.same rfl, EntS.same rfl, trivial⟩, ofL_le ⟨rfl, rfl, rfl, trivial⟩⟩
theorem back4 (y : Nat) (l : List GV) (v : Int) (H : HH) (Q : AX → TT → HH → Prop) (hQ : ∀ T, allT T (backTL y l v) → T 18 = some (.bool false) → Q .normal T H) : W cxA 19 1 (fun _ => false) reg428 0 (reg428.toList.drop 7) ((ofL (backTL y l v)).put 17 (.bool true)) H (fun T' H' => Q .normal T' H') (fun v T' H' => Q (.panic v) T' H') := by
  conv => whnf
  exact hQ _ ⟨rfl, rfl, rfl, trivial⟩ rfl
theorem back5 (y : Nat) (l : List GV) (v : Int) (T : TT) (hT : allT T (backTL y l v)) (h18 : T 18 = some (.bool false)) (H : HH) : WC cxA 19 1 (sq2 (blkC (sq1 (sq2 lp428)))) T H (fun e T' H' => e = .normal ∧ H' = H ∧ allT T' (backTL y l v)) := by
  show (match T 18 with | some (.lit (.bool t)) => Br t _ _ | _ => False)
  rw [h18]
  exact ⟨rfl, rfl, hT⟩
theorem back6 (y : Nat) (l : List GV) (v : Int) (hv : IntKind.i64.wrap (v - 1) = v - 1) (H : HH) : WC cxA 19 1 (sq2 (sq2 lp428)) (ofL (backTL y l v)) H (fun e T' H' => e = .normal ∧ H' = H ∧ allT T' (backTL y l (v - 1))) := by
  conv => whnf
  repeat' ((first | refine RegP.enter ?_ | refine DrawP.range (by kernel_rfl) ?_ | refine BuildP.frz ⟨rfl, ?_⟩ | refine BoxP.row ?_ | refine And.intro (Nat.succ_pos _) ?_ | fail); conv => whnf)
  refine ⟨rfl, rfl, rfl, rfl, ?_, trivial⟩
  show some _ = some _
  rw [hv]
theorem back_ok (l : List GV) (hl : l.length ≤ R) : ISpec cxA 428 [backP l] (backX l) := by
  intro y r HG w0 μ0 F0 caps n h0 g0 hc hrec hxs hy
  obtain ⟨pv, rfl, hp⟩ := All2F.one hc
  have hR : l.length ≤ 140737488355328 := hl
  have hlL : ¬ Lv μ0 (ofH (HG 0)) y := by
    rintro ⟨q, row, lc, q1, q2, q3, q4⟩
    obtain ⟨lc', e1, e2⟩ := h0.rows q row q1
    obtain rfl : lc' = lc := Option.some.inj (e1.symm.trans q3)
    cases row with
    | cells sz bs es =>
      obtain ⟨_, _, _, _, e3⟩ := e2
      rw [q4] at e3
      obtain ⟨c, e, lo, hi, e4, _⟩ := e3.h
      rw [hrec] at e4; cases e4
    | map kv =>
      obtain ⟨b, es, ck, e3, e4, _⟩ := e2
      rw [q4] at e3; cases e3
      rw [hrec] at e4; cases e4
    | iter s p =>
      obtain ⟨b, e3, _, e4⟩ := e2
      rw [q4] at e3; cases e3
      rw [hrec] at e4; cases e4
    | dead => cases q2
  have hargs : All2 (Rep w0 μ0 F0) [.clo (.yield y) [] [], backP l] [.func (.yield y) #[] #[], pv] :=
    .cons (.clo (fs := []) (cs := []) rfl rfl (fun i h => by cases h) (fun i h => by cases h)) (.cons (.frz hp) .nil)
  have s0 := entry_sim (cx := cxA) (nt := 19) false h0 g0 hargs (by show 2 ≤ 19; decide)
  have hlen : (backX l).length = l.length := by simp [backX]
  refine callsIn_of_wp Tryz.func428 body428 trivial ?_
  refine wpIn_seq (wpIn_mono (WC_soundF cxA_ok (n := n) _ none (.inl ⟨rfl, .inr rfl⟩) 1 _ _ _ (back0 y l hl _) _ _ _ _ s0) ?_)
  rintro e a w ⟨ae, T, H, μ, F, ⟨rfl, rfl, hT⟩, s, hr⟩
  cases hr
  have s1 := s.less (ofL_le hT)
  refine wpIn_block ?_
  have start : ∃ μ F, SimX cxA 19 ⟨w0, μ0, F0, ofH (HG 0), [], false⟩ (ofL (backTL y l ((l.length : Int) - 1 - (0 : Nat)))) (ofH (HG 0)) a w μ F := ⟨μ, F, by simpa using s1⟩
  refine loop_wpIn (ι := {j : Nat // j ≤ l.length}) (fun j => l.length - j.1) (fun j a w => ∃ μ F, SimX cxA 19 ⟨w0, μ0, F0, ofH (HG 0), [], false⟩ (ofL (backTL y l ((l.length : Int) - 1 - (j.1 : Nat)))) (ofH (HG j.1)) a w μ F) ?_ (i := ⟨0, Nat.zero_le _⟩) start
  rintro ⟨j, hj⟩ a w ⟨μ, F, s⟩
  refine wpIn_seq (wpIn_mono (WC_soundF cxA_ok (n := n) _ none (.inl ⟨rfl, .inr rfl⟩) 1 _ _ _ (back1 y l _ _) _ _ _ _ s) ?_)
  rintro e a w ⟨ae, T, H, μ, F, ⟨rfl, hT, hae⟩, s, hr⟩
  have s1 := s.less (ofL_le hT)
  cases hr with
  | normal =>
    have hae : 0 ≤ (l.length : Int) - 1 - (j : Nat) := hae
    have hjl : j < l.length := by omega
    have ei : (l.length : Int) - 1 - (j : Nat) = ((l.length - 1 - j : Nat) : Int) := by omega
    rw [ei] at s1
    have hx := backX_get hjl
    obtain ⟨o, o1, o2, o3, o4⟩ := split428
    have b4 := back4 y l ((l.length - 1 - j : Nat) : Int) (ofH (HG (j + 1))) (fun e T H => e = .normal ∧ H = ofH (HG (j + 1)) ∧ allT T (backTL y l ((l.length - 1 - j : Nat) : Int)) ∧ T 18 = some (.bool false)) fun T h1 h2 => ⟨rfl, rfl, h1, h2⟩
    have hround : (Code.block 1 (.seq (.region 3 reg428 false) (sq2 (blkC (sq1 (sq2 lp428)))))).wpIn Fence.wide n cxA.P (fun e a w => e = .normal ∧ ∃ μ F, SimX cxA 19 ⟨w0, μ0, F0, ofH (HG 0), [], false⟩ (ofL (backTL y l ((l.length - 1 - j : Nat) : Int))) (ofH (HG (j + 1))) a w μ F) a w := by
      refine wpIn_block (wpIn_seq (wpIn_mono (yield_region cxA_ok (n := n) (ops := reg428) (backTL y l ((l.length - 1 - j : Nat) : Int)) (Q := fun e T H => e = .normal ∧ H = ofH (HG (j + 1)) ∧ allT T (backTL y l ((l.length - 1 - j : Nat) : Int)) ∧ T 18 = some (.bool false)) (g := 1) o1 rfl rfl o2 o3 o4 (by decide) rfl hrec hlL (hy j _ hx) (hxs _ (List.mem_of_getElem? hx)) (gen0_ofL (by rfl)) (back3 y l _ (by omega) _) b4 s1) ?_))
      rintro e a w ⟨ae, T, H, μ, F, ⟨rfl, rfl, hT, h18⟩, s, hr⟩
      cases hr
      refine wpIn_mono (WC_soundF cxA_ok (n := n) _ none (.inl ⟨rfl, .inr rfl⟩) 1 _ _ _ (back5 y l _ T hT h18 _) _ _ _ _ s) ?_
      rintro e a w ⟨ae, T, H, μ, F, ⟨rfl, rfl, hT⟩, s, hr⟩
      cases hr
      exact ⟨rfl, μ, F, s.less (ofL_le hT)⟩
    refine wpIn_seq (wpIn_mono hround fun e a w hq => ?_)
    obtain ⟨rfl, μ, F, s⟩ := hq
    refine wpIn_mono (WC_soundF cxA_ok (n := n) _ none (.inl ⟨rfl, .inr rfl⟩) 1 _ _ _ (back6 y l _ (wrap64 (by omega) (by omega)) _) _ _ _ _ s) ?_
    rintro e a w ⟨ae, T, H, μ, F, ⟨rfl, rfl, hT⟩, s, hr⟩
    cases hr
    refine ⟨⟨j + 1, hjl⟩, by show l.length - (j + 1) < l.length - j; omega, μ, F, ?_⟩
    have e2 : (l.length : Int) - 1 - ((j + 1 : Nat) : Int) = ((l.length - 1 - j : Nat) : Int) - 1 := by omega
    show SimX _ _ _ (ofL (backTL y l ((l.length : Int) - 1 - ((j + 1 : Nat) : Int)))) _ _ _ _ _
    rw [e2]
    exact s.less (ofL_le hT)
  | exit =>
    obtain ⟨rfl, hv⟩ : _ = 0 ∧ (l.length : Int) - 1 - (j : Nat) < 0 := hae
    have hjl : j = l.length := by omega
    subst hjl
    simp only [Exit.then, Exit.inBlock, if_true]
    refine ⟨s.d.e rfl, _, results_eq (vs := []) (by rfl), ⟨_, rfl⟩, μ, F, ?_, s.g, ?_⟩
    · rw [hlen]; exact s.h
    · rw [hlen]; exact s.f
  | goto => exact hae.elim
  | ret => exact hae.elim
  | panic => exact hae.elim
end Go.Eng
namespace Go.Eng
open Go.Proofs
set_option maxRecDepth 10000
/-- The room behind elements that are put one behind another. -/
def roomL : List GV → Nat → Int → Int
  | [], _, r => r
  | g :: l, i, r => roomL l (i + 1) (pileM i g r)
theorem roomL_app : ∀ (l m : List GV) (i : Nat) (r : Int), roomL (l ++ m) i r = roomL m (i + l.length) (roomL l i r)
  | [], m, i, r => by simp [roomL]
  | g :: l, m, i, r => by simp only [List.cons_append, roomL, roomL_app l m, List.length_cons]; congr 1; omega
theorem roomL_le : ∀ (l : List GV) (i : Nat) (r : Int), roomL l i r + 2 * l.length ≤ r
  | [], i, r => by simp [roomL]
  | g :: l, i, r => by
    have h1 := roomL_le l (i + 1) (pileM i g r)
    have h2 := pileM_le i g r
    simp only [roomL, List.length_cons]; omega
theorem roomL_take (l : List GV) (i : Nat) (r : Int) (j : Nat) : roomL l i r ≤ roomL (l.take j) i r := by
  conv => lhs; rw [← List.take_append_drop j l, roomL_app]
  have := roomL_le (l.drop j) (i + (l.take j).length) (roomL (l.take j) i r)
  omega
theorem roomL_succ {l : List GV} {j : Nat} (h : j < l.length) (r : Int) : roomL (l.take (j + 1)) 0 r = pileM j (l.getD j default) (roomL (l.take j) 0 r) := by
  rw [take_succ' h, roomL_app]
  simp [roomL, Nat.min_eq_left (Nat.le_of_lt h)]
theorem wantK_ok (K : Int) (l : List GV) (hl : allKind K l = true) : PSpec cxA 404 [.int K, .lz (.gl l)] (.ret (.tup [])) := by
  have h3 : ∀ i, i < l.length → (l.getD i default).kind = K := by
    intro i hi
    have e : l.getD i default = l[i] := by simp [List.getD_eq_getElem?_getD, List.getElem?_eq_getElem hi]
    have := List.all_eq_true.1 hl (l.getD i default) (by rw [e]; exact List.getElem_mem hi)
    simpa using this
  refine PSpec.of_WC cxA_ok Tryz.func404 rfl Tryz.call404 (Nat.le_of_ble_eq_true rfl) (g := 1) ?_
  conv => whnf
  repeat' ((first | refine RegP.enter ?_ | refine DrawP.range (by kernel_rfl) ?_ | refine BuildP.frz ⟨rfl, ?_⟩ | refine BoxP.row ?_ | refine And.intro (Nat.succ_pos _) ?_ | fail); conv => whnf)
  refine ⟨2, {i : Nat // i ≤ l.length}, fun i => ([(0, .int K), (6, .lz (.gl l)), (7, .int l.length), (8, .int i.1)], []), fun i => l.length - i.1, ⟨⟨0, Nat.zero_le _⟩, Sub.of_check [] ?_ (by repeat' first | exact Gen0.emp | exact Gen0.ofH rfl | refine Gen0.put ?_ (by decide) | refine Gen0.put0 ?_ ⟨_, rfl⟩)⟩, fun ⟨i, hi⟩ => ?_⟩
  · conv => whnf
    (iterate 3 ((all_goals try (conv => whnf)); (repeat' first | exact ⟨⟩ | refine And.intro ?_ ?_ | rfl | exact fun _ h => h | exact .inl rfl | exact none_some | exact .inr in4 | fail)))
  conv => whnf
  refine RegP.go fun hf => ?_
  conv => whnf
  refine br (fun hl1 => ?_) (fun hl1 => ?_)
  rotate_left
  · try rw [hl1]
    conv => whnf
    repeat' ((first | refine RegP.enter ?_ | refine DrawP.range (by kernel_rfl) ?_ | refine BuildP.frz ⟨rfl, ?_⟩ | refine BoxP.row ?_ | refine And.intro (Nat.succ_pos _) ?_ | fail); conv => whnf)
    refine Ent.of_check ?_ rfl
    conv => whnf
    (iterate 3 ((all_goals try (conv => whnf)); (repeat' first | exact ⟨⟩ | refine And.intro ?_ ?_ | rfl | exact fun _ h => h | exact .inl rfl | exact none_some | exact .inr in4 | fail)))
  have hlt : i < l.length := Int.ofNat_lt.1 (of_decide_eq_true hl1)
  have hR := le_of_mul (k := 79) (hf.lz 6 _ _ _ _ _ _ rfl rfl)
  try rw [hl1]
  conv => whnf
  repeat' ((first | refine RegP.enter ?_ | refine DrawP.range (by kernel_rfl) ?_ | refine BuildP.frz ⟨rfl, ?_⟩ | refine BoxP.row ?_ | refine And.intro (Nat.succ_pos _) ?_ | fail); conv => whnf)
  refine And.intro (hlt) ?_
  conv => whnf
  refine And.intro (hlt) ?_
  conv => whnf
  repeat' ((first | refine RegP.enter ?_ | refine DrawP.range (by kernel_rfl) ?_ | refine BuildP.frz ⟨rfl, ?_⟩ | refine BoxP.row ?_ | refine And.intro (Nat.succ_pos _) ?_ | fail); conv => whnf)
  rw [h3 i hlt, show (K != K) = false from bne_self_eq_false ..]
  conv => whnf
  repeat' ((first | refine RegP.enter ?_ | refine DrawP.range (by kernel_rfl) ?_ | refine BuildP.frz ⟨rfl, ?_⟩ | refine BoxP.row ?_ | refine And.intro (Nat.succ_pos _) ?_ | fail); conv => whnf)
  refine ⟨⟨i + 1, hlt⟩, (by show l.length - (i + 1) < l.length - i; omega), Sub.of_check [] ?_ (by repeat' first | exact Gen0.emp | exact Gen0.ofH rfl | refine Gen0.put ?_ (by decide) | refine Gen0.put0 ?_ ⟨_, rfl⟩)⟩
  conv => whnf
  (iterate 3 ((all_goals try (conv => whnf)); (repeat' first | exact ⟨⟩ | refine And.intro ?_ ?_ | rfl | exact fun _ h => h | exact .inl rfl | exact none_some | exact .inr in4 | fail)))
  all_goals exact wrap_succ hlt hR
theorem backward_ok (l : List GV) : PSpec cxA 422 [.lz (.gl l)] (.ret (.clo (.func 428) [] [backP l])) := by
  refine PSpec.of_WC cxA_ok Tryz.func422 rfl Tryz.call422 (Nat.le_of_ble_eq_true rfl) (g := 1) ?_
  conv => whnf
  refine RegP.enter ?_
  conv => whnf
  refine BoxP.frz ⟨rfl, ?_⟩
  conv => whnf
  repeat' ((first | refine RegP.enter ?_ | refine DrawP.range (by kernel_rfl) ?_ | refine BuildP.frz ⟨rfl, ?_⟩ | refine BoxP.row ?_ | refine And.intro (Nat.succ_pos _) ?_ | fail); conv => whnf)
  refine Ent.of_check ?_ rfl
  conv => whnf
  (iterate 3 ((all_goals try (conv => whnf)); (repeat' first | exact ⟨⟩ | refine And.intro ?_ ?_ | rfl | exact fun _ h => h | exact .inl rfl | exact none_some | exact .inr in4 | fail)))
end Go.Eng
namespace Go.Eng
open Go.Proofs
set_option maxRecDepth 10000
def revTL (l : List GV) (i : Nat) : List (Nat × AV) := [(4, .ptr (0,4,0) 0 0), (6, .ptr (0,6,0) 0 0), (i, .clo (.func 428) [] [backP l])]
def revHG (l : List GV) (j : Nat) : List (Id × Row) := [((0,4,0), .cells 5 80 [[.int 0, .int 0, .str ⟨#[]⟩, .nil, .nil]]), ((0,6,0), .cells 1 8 [[.ptr (0,31,1) 0 0]]), ((0,31,1), pileRow (l.take j).length (5,0,0) (roomL (l.take j) 0 65531)), ((5,0,0), .cells 5 80 ((l.take j).map GV.cells))]
theorem rev_get {l : List GV} {j : Nat} (h : j < l.length) : l.reverse.getD j default = l.getD (l.length - 1 - j) default := by
  have h2 : l.length - 1 - j < l.length := by omega
  rw [List.getD_eq_getElem?_getD, List.getD_eq_getElem?_getD, List.getElem?_reverse h]
theorem par410 : ∀ p, p ∈ (#[128, 129] : Array Tmp).toList → p < Tryz.f410.ntmps := by
  intro p hp
  have h2 : p = 128 ∨ p = 129 := by simpa using hp
  have h3 : Tryz.f410.ntmps = 137 := rfl
  rw [h3]
  rcases h2 with h2 | h2 <;> rw [h2] <;> decide
theorem reverse_ok (g : GV) (hg : g.kind = 6) (hl : g.list.length ≤ 60000) (hr : 0 ≤ roomL g.list.reverse 0 65531) : PSpec cxA 410 [.str oReverse, .lz (.gl [g])] (.ret (.agg (gList g.list.reverse).cells)) := by
  have hw6 := wantK_ok 6 [g] (by simp [allKind, hg])
  have hw3 := wantK_ok 3 [] rfl
  obtain ⟨k, i0, t0, l, d⟩ := g
  replace hg : k = 6 := hg
  subst hg
  replace hl : l.length ≤ 60000 := hl
  replace hr : 0 ≤ roomL l.reverse 0 65531 := hr
  refine PSpec.of_WC cxA_ok Tryz.func410 rfl Tryz.call410 (Nat.le_of_ble_eq_true rfl) (g := 1) ?_
  conv => whnf
  refine RegP.enter ?_
  conv => whnf
  refine RegP.enter ?_
  conv => whnf
  refine And.intro ((by decide : 0 < 1)) ?_
  conv => whnf
  refine And.intro ((by decide : 0 < 1)) ?_
  conv => whnf
  repeat' ((first | refine RegP.enter ?_ | refine DrawP.range (by kernel_rfl) ?_ | refine BuildP.frz ⟨rfl, ?_⟩ | refine BoxP.row ?_ | refine And.intro (Nat.succ_pos _) ?_ | fail); conv => whnf)
  refine call_le (hw6) ?_ (by rfl) (by rfl) ?_
  · (iterate 3 ((all_goals try (conv => whnf)); (repeat' first | exact ⟨⟩ | refine And.intro ?_ ?_ | rfl | exact fun _ h => h | exact .inl rfl | exact none_some | exact .inr in4 | fail)))
    all_goals trace_state
  conv => whnf
  repeat' ((first | refine RegP.enter ?_ | refine DrawP.range (by kernel_rfl) ?_ | refine BuildP.frz ⟨rfl, ?_⟩ | refine BoxP.row ?_ | refine And.intro (Nat.succ_pos _) ?_ | fail); conv => whnf)
  refine call_le (hw3) ?_ (by rfl) (by rfl) ?_
  · (iterate 3 ((all_goals try (conv => whnf)); (repeat' first | exact ⟨⟩ | refine And.intro ?_ ?_ | rfl | exact fun _ h => h | exact .inl rfl | exact none_some | exact .inr in4 | fail)))
    all_goals trace_state
  conv => whnf
  repeat' ((first | refine RegP.enter ?_ | refine DrawP.range (by kernel_rfl) ?_ | refine BuildP.frz ⟨rfl, ?_⟩ | refine BoxP.row ?_ | refine And.intro (Nat.succ_pos _) ?_ | fail); conv => whnf)
  refine call_mm [] 1 31 (newPile_ok) ?_ ?_ ?_
  · conv => whnf
    (iterate 3 ((all_goals try (conv => whnf)); (repeat' first | exact ⟨⟩ | refine And.intro ?_ ?_ | rfl | exact fun _ h => h | exact .inl rfl | exact none_some | exact .inr in4 | fail)))
  · intro _; conv => whnf
    (iterate 3 ((all_goals try (conv => whnf)); (repeat' first | exact ⟨⟩ | refine And.intro ?_ ?_ | rfl | exact fun _ h => h | exact .inl rfl | exact none_some | exact .inr in4 | fail)))
  intro x; conv => whnf
  repeat' ((first | refine RegP.enter ?_ | refine DrawP.range (by kernel_rfl) ?_ | refine BuildP.frz ⟨rfl, ?_⟩ | refine BoxP.row ?_ | refine And.intro (Nat.succ_pos _) ?_ | refine call_same (backward_ok l) rfl ?_ | fail); conv => whnf)
  refine RfP.of cxA_ok 2 (revTL l 127) (revHG l.reverse) (fun vs w => Tryz.call428 vs w) (back_ok l (by simp only [R]; omega)) (Sub.of_check [((0,4,0), .old true (1,4,0)), ((0,6,0), .old true (1,6,0)), ((0,31,1), .old true (1,31,1)), ((5,0,0), .old true (1,31,2))] ?_ (by repeat' first | exact Gen0.emp | exact Gen0.ofH rfl | refine Gen0.put ?_ (by decide) | refine Gen0.put0 ?_ ⟨_, rfl⟩)) rfl ⟨EntS.same rfl, trivial⟩ (gen0_ofL rfl) par410 (fun x hx => ?_) rfl rfl (fun j x hj => ?_) ?_
  · conv => whnf
    (iterate 3 ((all_goals try (conv => whnf)); (repeat' first | exact ⟨⟩ | refine And.intro ?_ ?_ | rfl | exact fun _ h => h | exact .inl rfl | exact none_some | exact .inr in4 | fail)))
    all_goals trace_state
  · simp only [backX, List.mem_map] at hx
    obtain ⟨j, _, rfl⟩ := hx
    rfl
  · have hjl : j < l.length := by
      have := (List.getElem?_eq_some_iff.1 hj).1
      simpa [backX] using this
    rw [backX_get hjl] at hj
    cases hj
    have hjr : j < l.reverse.length := by simpa using hjl
    have e1 := roomL_succ hjr 65531
    have e2 := take_succ' hjr
    have h1 := roomL_take l.reverse 0 65531 (j + 1)
    have h2 := roomL_le (l.reverse.take j) 0 65531
    have h3 := pileM_le j (l.reverse.getD j default) (roomL (l.reverse.take j) 0 65531)
    have hlen : (l.reverse.take j).length = j := by simp; omega
    have hla : (l.reverse.take (j + 1)).length = j + 1 := by simp; omega
    have hb := rev_get hjl
    generalize hy : l.reverse.getD j default = y at *
    rw [← hb]
    clear hb
    have hadd := add_yes (l.reverse.take j) y (roomL (l.reverse.take j) 0 65531) (by omega) (by omega) (by omega) (by rw [hlen]; omega)
    conv => whnf
    repeat' ((first | refine RegP.enter ?_ | refine DrawP.range (by kernel_rfl) ?_ | refine BuildP.frz ⟨rfl, ?_⟩ | refine BoxP.row ?_ | refine And.intro (Nat.succ_pos _) ?_ | fail); conv => whnf)
    refine call_mm [((0,0,0), .old true (0,31,1)), ((0,1,0), .old false (5,0,0))] 2 132 (hadd) ?_ ?_ ?_
    · conv => whnf
      (iterate 3 ((all_goals try (conv => whnf)); (repeat' first | exact ⟨⟩ | refine And.intro ?_ ?_ | rfl | exact fun _ h => h | exact .inl rfl | exact none_some | exact .inr in4 | fail)))
      all_goals first | exact idfL_map idfL_cells _ | trace_state
    · intro _; conv => whnf
      (iterate 3 ((all_goals try (conv => whnf)); (repeat' first | exact ⟨⟩ | refine And.intro ?_ ?_ | rfl | exact fun _ h => h | exact .inl rfl | exact none_some | exact .inr in4 | fail)))
    intro x; conv => whnf
    repeat' ((first | refine RegP.enter ?_ | refine DrawP.range (by kernel_rfl) ?_ | refine BuildP.frz ⟨rfl, ?_⟩ | refine BoxP.row ?_ | refine And.intro (Nat.succ_pos _) ?_ | fail); conv => whnf)
    refine Sub.of_check (TL := []) [((0,4,0), .old true (0,4,0)), ((0,6,0), .old true (0,6,0)), ((0,31,1), .old true (0,31,1)), ((5,0,0), .old false (2,132,2))] ?_ (by repeat' first | exact Gen0.emp | exact Gen0.ofH rfl | refine Gen0.put ?_ (by decide) | refine Gen0.put0 ?_ ⟨_, rfl⟩)
    conv => whnf
    (iterate 3 ((all_goals try (conv => whnf)); (repeat' first | exact ⟨⟩ | refine And.intro ?_ ?_ | rfl | exact fun _ h => h | exact .inl rfl | exact none_some | exact .inr in4 | fail)))
    all_goals first | (rw [hlen, hla]) | (rw [hlen]; exact e1.symm) | (rw [renLL_map idfL_cells, e2]) | exact idfL_map idfL_cells _
  · have hfull : l.reverse.take (backX l).length = l.reverse := by
      rw [show (backX l).length = l.reverse.length by simp [backX]]; exact List.take_length
    conv => whnf
    repeat' ((first | refine RegP.enter ?_ | refine DrawP.range (by kernel_rfl) ?_ | refine BuildP.frz ⟨rfl, ?_⟩ | refine BoxP.row ?_ | refine And.intro (Nat.succ_pos _) ?_ | fail); conv => whnf)
    refine Ent.of_check ?_ rfl
    conv => whnf
    (iterate 3 ((all_goals try (conv => whnf)); (repeat' first | exact ⟨⟩ | refine And.intro ?_ ?_ | rfl | exact fun _ h => h | exact .inl rfl | exact none_some | exact .inr in4 | fail)))
    all_goals rw [hfull]
    all_goals first | rfl | exact len_map _ _ | exact frz_all idfL_cells _
end Go.Eng
namespace Go.Eng
open Go.Proofs
set_option maxRecDepth 10000
def sliceM (l : List GV) (A B : Nat) : List GV := (l.drop (min A l.length)).take (min B (l.length - min A l.length))
theorem slice_get {l : List GV} {F M i : Nat} (hi : i < M) (hM : M ≤ l.length - F) : (l.getD (F + i) default).cells = (((l.drop F).take M).getD i default).cells := by
  have h1 : i < ((l.drop F).take M).length := by simp; omega
  have h2 : F + i < l.length := by omega
  rw [List.getD_eq_getElem?_getD, List.getD_eq_getElem?_getD, List.getElem?_take, if_pos hi, List.getElem?_drop]
theorem slice0_ok (g : GV) (A B : Nat) (t1 t2 : ByteArray) (l1 l2 : List GV) (d1 d2 : List (ByteArray × GV)) (hg : g.kind = 6) (hl : g.list.length ≤ 60000) (hA : A ≤ 100000) (hB : B ≤ 100000) (hF : min A g.list.length = 0) (hr : 0 ≤ roomL (sliceM g.list A B) 0 65531) : PSpec cxA 410 [.str oSlice, .lz (.gl [g, .mk 3 A t1 l1 d1, .mk 3 B t2 l2 d2])] (.ret (.agg (gList (sliceM g.list A B)).cells)) := by
  have hw6 := wantK_ok 6 [g] (by simp [allKind, hg])
  have hw3 := wantK_ok 3 [.mk 3 A t1 l1 d1, .mk 3 B t2 l2 d2] rfl
  obtain ⟨k, i0, t0, l, d⟩ := g
  replace hg : k = 6 := hg
  subst hg
  replace hl : l.length ≤ 60000 := hl
  replace hF : min A l.length = 0 := hF
  replace hr : 0 ≤ roomL (sliceM l A B) 0 65531 := hr
  show PSpec cxA 410 [.str oSlice, .lz (.gl [.mk 6 i0 t0 l d, .mk 3 A t1 l1 d1, .mk 3 B t2 l2 d2])] (.ret (.agg (gList (sliceM l A B)).cells))
  have f2 : (if ((([GV.mk 6 i0 t0 l d, GV.mk 3 (A : Int) t1 l1 d1, GV.mk 3 (B : Int) t2 l2 d2].getD 0 default).list.length : Nat) : Int) < (if (0 : Int) > ([GV.mk 6 i0 t0 l d, GV.mk 3 (A : Int) t1 l1 d1, GV.mk 3 (B : Int) t2 l2 d2].getD 1 default).int then 0 else ([GV.mk 6 i0 t0 l d, GV.mk 3 (A : Int) t1 l1 d1, GV.mk 3 (B : Int) t2 l2 d2].getD 1 default).int) then ((([GV.mk 6 i0 t0 l d, GV.mk 3 (A : Int) t1 l1 d1, GV.mk 3 (B : Int) t2 l2 d2].getD 0 default).list.length : Nat) : Int) else (if (0 : Int) > ([GV.mk 6 i0 t0 l d, GV.mk 3 (A : Int) t1 l1 d1, GV.mk 3 (B : Int) t2 l2 d2].getD 1 default).int then 0 else ([GV.mk 6 i0 t0 l d, GV.mk 3 (A : Int) t1 l1 d1, GV.mk 3 (B : Int) t2 l2 d2].getD 1 default).int)) = ((0 : Nat) : Int) := by
    show (if ((l.length : Nat) : Int) < (if (0 : Int) > (A : Int) then 0 else (A : Int)) then ((l.length : Nat) : Int) else (if (0 : Int) > (A : Int) then 0 else (A : Int))) = ((0 : Nat) : Int)
    rw [show (if (0 : Int) > (A : Int) then (0 : Int) else (A : Int)) = (A : Int) from if_neg (by omega)]
    split <;> omega
  obtain ⟨M, hM⟩ : ∃ M, M = min B (l.length - (0)) := ⟨_, rfl⟩
  have f4 : (if ((([GV.mk 6 i0 t0 l d, GV.mk 3 (A : Int) t1 l1 d1, GV.mk 3 (B : Int) t2 l2 d2].getD 0 default).list.length : Nat) : Int) < (if (0 : Int) > ([GV.mk 6 i0 t0 l d, GV.mk 3 (A : Int) t1 l1 d1, GV.mk 3 (B : Int) t2 l2 d2].getD 2 default).int then 0 else ([GV.mk 6 i0 t0 l d, GV.mk 3 (A : Int) t1 l1 d1, GV.mk 3 (B : Int) t2 l2 d2].getD 2 default).int) then ((([GV.mk 6 i0 t0 l d, GV.mk 3 (A : Int) t1 l1 d1, GV.mk 3 (B : Int) t2 l2 d2].getD 0 default).list.length : Nat) : Int) else (if (0 : Int) > ([GV.mk 6 i0 t0 l d, GV.mk 3 (A : Int) t1 l1 d1, GV.mk 3 (B : Int) t2 l2 d2].getD 2 default).int then 0 else ([GV.mk 6 i0 t0 l d, GV.mk 3 (A : Int) t1 l1 d1, GV.mk 3 (B : Int) t2 l2 d2].getD 2 default).int)) = ((M : Nat) : Int) := by
    show (if ((l.length : Nat) : Int) < (if (0 : Int) > (B : Int) then 0 else (B : Int)) then ((l.length : Nat) : Int) else (if (0 : Int) > (B : Int) then 0 else (B : Int))) = ((M : Nat) : Int)
    rw [show (if (0 : Int) > (B : Int) then (0 : Int) else (B : Int)) = (B : Int) from if_neg (by omega)]
    split <;> omega
  have hLS : sliceM l A B = (l.drop (0)).take M := by unfold sliceM; rw [hF, hM]
  have hML : M ≤ l.length - (0) := by omega
  have hlen : (sliceM l A B).length = M := by rw [hLS]; simp; omega
  have hget : ∀ i, i < M → (l.getD (0 + i) default).cells = ((sliceM l A B).getD i default).cells := fun i hi => by rw [hLS]; exact slice_get hi hML
  have hget2 : ∀ i, i < M → (l.getD i default).cells = ((sliceM l A B).getD i default).cells := fun i hi => by have := hget i hi; rw [Nat.zero_add] at this; exact this
  generalize sliceM l A B = L at *
  refine PSpec.of_WC cxA_ok Tryz.func410 rfl Tryz.call410 (Nat.le_of_ble_eq_true rfl) (g := 1) ?_
  conv => whnf
  refine RegP.enter ?_
  conv => whnf
  refine RegP.enter ?_
  conv => whnf
  refine And.intro ((by decide : 0 < 3)) ?_
  conv => whnf
  refine And.intro ((by decide : 0 < 3)) ?_
  conv => whnf
  repeat' ((first | refine RegP.enter ?_ | refine DrawP.range (by kernel_rfl) ?_ | refine BuildP.frz ⟨rfl, ?_⟩ | refine BoxP.row ?_ | refine And.intro (Nat.succ_pos _) ?_ | fail); conv => whnf)
  refine call_le (hw6) ?_ (by rfl) (by rfl) ?_
  · (iterate 3 ((all_goals try (conv => whnf)); (repeat' first | exact ⟨⟩ | refine And.intro ?_ ?_ | rfl | exact fun _ h => h | exact .inl rfl | exact none_some | exact .inr in4 | fail)))
    all_goals trace_state
  conv => whnf
  repeat' ((first | refine RegP.enter ?_ | refine DrawP.range (by kernel_rfl) ?_ | refine BuildP.frz ⟨rfl, ?_⟩ | refine BoxP.row ?_ | refine And.intro (Nat.succ_pos _) ?_ | fail); conv => whnf)
  refine call_le (hw3) ?_ (by rfl) (by rfl) ?_
  · (iterate 3 ((all_goals try (conv => whnf)); (repeat' first | exact ⟨⟩ | refine And.intro ?_ ?_ | rfl | exact fun _ h => h | exact .inl rfl | exact none_some | exact .inr in4 | fail)))
    all_goals exact .inr ⟨rfl, rfl, lt2 rfl rfl⟩
  conv => whnf
  repeat' ((first | refine RegP.enter ?_ | refine DrawP.range (by kernel_rfl) ?_ | refine BuildP.frz ⟨rfl, ?_⟩ | refine BoxP.row ?_ | refine And.intro (Nat.succ_pos _) ?_ | fail); conv => whnf)
  refine call_mm [] 1 31 (newPile_ok) ?_ ?_ ?_
  · conv => whnf
    (iterate 3 ((all_goals try (conv => whnf)); (repeat' first | exact ⟨⟩ | refine And.intro ?_ ?_ | rfl | exact fun _ h => h | exact .inl rfl | exact none_some | exact .inr in4 | fail)))
  · intro _; conv => whnf
    (iterate 3 ((all_goals try (conv => whnf)); (repeat' first | exact ⟨⟩ | refine And.intro ?_ ?_ | rfl | exact fun _ h => h | exact .inl rfl | exact none_some | exact .inr in4 | fail)))
  intro x; conv => whnf
  repeat' ((first | refine RegP.enter ?_ | refine DrawP.range (by kernel_rfl) ?_ | refine BuildP.frz ⟨rfl, ?_⟩ | refine BoxP.row ?_ | refine And.intro (Nat.succ_pos _) ?_ | refine And.intro (by first | decide | assumption | omega | (simp; done) | (simp; omega)) ?_ | fail); conv => whnf)
  rw [f2]
  conv => whnf
  refine And.intro ((show 0 ≤ l.length by omega)) ?_
  conv => whnf
  repeat' ((first | refine RegP.enter ?_ | refine DrawP.range (by kernel_rfl) ?_ | refine BuildP.frz ⟨rfl, ?_⟩ | refine BoxP.row ?_ | refine And.intro (Nat.succ_pos _) ?_ | refine And.intro (by first | decide | assumption | omega | (simp; done) | (simp; omega)) ?_ | fail); conv => whnf)
  rw [f4]
  conv => whnf
  refine And.intro ((show M ≤ l.length by omega)) ?_
  conv => whnf
  repeat' ((first | refine RegP.enter ?_ | refine DrawP.range (by kernel_rfl) ?_ | refine BuildP.frz ⟨rfl, ?_⟩ | refine BoxP.row ?_ | refine And.intro (Nat.succ_pos _) ?_ | fail); conv => whnf)
  refine ⟨2, {j : Nat // j ≤ L.length}, fun i => ([(4, .ptr (1,4,0) 0 0), (6, .ptr (1,6,0) 0 0), (92, .lz (.gl L)), (93, .int L.length), (94, .int i.1)], [((1,4,0), .cells 5 80 [[.int 0, .int 0, .str ⟨#[]⟩, .nil, .nil]]), ((1,6,0), .cells 1 8 [[.ptr (1,31,1) 0 0]]), ((1,31,1), pileRow (L.take i.1).length (2,0,0) (roomL (L.take i.1) 0 65531)), ((2,0,0), .cells 5 80 ((L.take i.1).map GV.cells))]), fun i => L.length - i.1, ⟨⟨0, Nat.zero_le _⟩, Sub.of_check [((1,4,0), .old true (1,4,0)), ((1,6,0), .old true (1,6,0)), ((1,31,1), .old true (1,31,1)), ((2,0,0), .old true (1,31,2))] ?_ (by repeat' first | exact Gen0.emp | exact Gen0.ofH rfl | refine Gen0.put ?_ (by decide) | refine Gen0.put0 ?_ ⟨_, rfl⟩)⟩, fun ⟨j, hj⟩ => ?_⟩
  · conv => whnf
    (iterate 3 ((all_goals try (conv => whnf)); (repeat' first | exact ⟨⟩ | refine And.intro ?_ ?_ | rfl | exact fun _ h => h | exact .inl rfl | exact none_some | exact .inr in4 | fail)))
    all_goals first | (show M = L.length; exact hlen.symm) | exact .inr ⟨rfl, rfl, fun i hi => hget2 i hi⟩ | (show ((M : Nat) : Int) = ((L.length : Nat) : Int); rw [hlen]) | trace_state
  conv => whnf
  refine RegP.go fun hf => ?_
  conv => whnf
  refine br (fun hl1 => ?_) (fun hl1 => ?_)
  · have hlt : j < L.length := Int.ofNat_lt.1 (of_decide_eq_true hl1)
    have hRl := hf.lz 92 _ _ _ _ _ _ rfl rfl
    have e1 := roomL_succ hlt 65531
    have e2 := take_succ' hlt
    have h1 := roomL_take L 0 65531 (j + 1)
    have h2 := roomL_le (L.take j) 0 65531
    have h3 := pileM_le j (L.getD j default) (roomL (L.take j) 0 65531)
    have hlj : (L.take j).length = j := by simp; omega
    have hla : (L.take (j + 1)).length = j + 1 := by simp; omega
    try rw [hl1]
    conv => whnf
    repeat' ((first | refine RegP.enter ?_ | refine DrawP.range (by kernel_rfl) ?_ | refine BuildP.frz ⟨rfl, ?_⟩ | refine BoxP.row ?_ | refine And.intro (Nat.succ_pos _) ?_ | fail); conv => whnf)
    refine And.intro (hlt) ?_
    conv => whnf
    refine And.intro (hlt) ?_
    conv => whnf
    repeat' ((first | refine RegP.enter ?_ | refine DrawP.range (by kernel_rfl) ?_ | refine BuildP.frz ⟨rfl, ?_⟩ | refine BoxP.row ?_ | refine And.intro (Nat.succ_pos _) ?_ | fail); conv => whnf)
    generalize hy : L.getD j default = y at *
    have hadd := add_yes (L.take j) y (roomL (L.take j) 0 65531) (by omega) (by omega) (by omega) (by rw [hlj]; omega)
    refine call_mm [((0,0,0), .old true (1,31,1)), ((0,1,0), .old false (2,0,0))] 2 100 (hadd) ?_ ?_ ?_
    · conv => whnf
      (iterate 3 ((all_goals try (conv => whnf)); (repeat' first | exact ⟨⟩ | refine And.intro ?_ ?_ | rfl | exact fun _ h => h | exact .inl rfl | exact none_some | exact .inr in4 | fail)))
      all_goals first | exact idfL_map idfL_cells _ | trace_state
    · intro _; conv => whnf
      (iterate 3 ((all_goals try (conv => whnf)); (repeat' first | exact ⟨⟩ | refine And.intro ?_ ?_ | rfl | exact fun _ h => h | exact .inl rfl | exact none_some | exact .inr in4 | fail)))
    intro x; conv => whnf
    repeat' ((first | refine RegP.enter ?_ | refine DrawP.range (by kernel_rfl) ?_ | refine BuildP.frz ⟨rfl, ?_⟩ | refine BoxP.row ?_ | refine And.intro (Nat.succ_pos _) ?_ | fail); conv => whnf)
    refine ⟨⟨j + 1, hlt⟩, (by show L.length - (j + 1) < L.length - j; omega), Sub.of_check [((1,4,0), .old true (1,4,0)), ((1,6,0), .old true (1,6,0)), ((1,31,1), .old true (1,31,1)), ((2,0,0), .old false (2,100,2))] ?_ (by repeat' first | exact Gen0.emp | exact Gen0.ofH rfl | refine Gen0.put ?_ (by decide) | refine Gen0.put0 ?_ ⟨_, rfl⟩)⟩
    conv => whnf
    (iterate 3 ((all_goals try (conv => whnf)); (repeat' first | exact ⟨⟩ | refine And.intro ?_ ?_ | rfl | exact fun _ h => h | exact .inl rfl | exact none_some | exact .inr in4 | fail)))
    all_goals first | exact wrap_succ hlt (le_of_mul (k := 79) hRl) | (show (L.take j).length + 1 = (L.take (j + 1)).length; rw [hlj, hla]) | (show pileM (L.take j).length y (roomL (L.take j) 0 65531) = roomL (L.take (j + 1)) 0 65531; rw [hlj]; exact e1.symm) | (rw [renLL_map idfL_cells, e2]) | exact idfL_map idfL_cells _ | trace_state
  have hge : j = L.length := by
    have h' : ¬ ((j : Int) < ((L.length : Nat) : Int)) := of_decide_eq_false hl1
    have : j ≤ L.length := hj
    omega
  subst hge
  have hfull : L.take L.length = L := List.take_length
  try rw [hl1]
  conv => whnf
  repeat' ((first | refine RegP.enter ?_ | refine DrawP.range (by kernel_rfl) ?_ | refine BuildP.frz ⟨rfl, ?_⟩ | refine BoxP.row ?_ | refine And.intro (Nat.succ_pos _) ?_ | fail); conv => whnf)
  refine Ent.of_check ?_ rfl
  conv => whnf
  (iterate 3 ((all_goals try (conv => whnf)); (repeat' first | exact ⟨⟩ | refine And.intro ?_ ?_ | rfl | exact fun _ h => h | exact .inl rfl | exact none_some | exact .inr in4 | fail)))
  all_goals rw [hfull]
  all_goals first | rfl | exact len_map _ _ | exact frz_all idfL_cells _
theorem sliceS_ok (g : GV) (A B : Nat) (t1 t2 : ByteArray) (l1 l2 : List GV) (d1 d2 : List (ByteArray × GV)) (F : Nat) (hg : g.kind = 6) (hl : g.list.length ≤ 60000) (hA : A ≤ 100000) (hB : B ≤ 100000) (hF : min A g.list.length = F + 1) (hr : 0 ≤ roomL (sliceM g.list A B) 0 65531) : PSpec cxA 410 [.str oSlice, .lz (.gl [g, .mk 3 A t1 l1 d1, .mk 3 B t2 l2 d2])] (.ret (.agg (gList (sliceM g.list A B)).cells)) := by
  have hw6 := wantK_ok 6 [g] (by simp [allKind, hg])
  have hw3 := wantK_ok 3 [.mk 3 A t1 l1 d1, .mk 3 B t2 l2 d2] rfl
  obtain ⟨k, i0, t0, l, d⟩ := g
  replace hg : k = 6 := hg
  subst hg
  replace hl : l.length ≤ 60000 := hl
  replace hF : min A l.length = F + 1 := hF
  replace hr : 0 ≤ roomL (sliceM l A B) 0 65531 := hr
  show PSpec cxA 410 [.str oSlice, .lz (.gl [.mk 6 i0 t0 l d, .mk 3 A t1 l1 d1, .mk 3 B t2 l2 d2])] (.ret (.agg (gList (sliceM l A B)).cells))
  have f2 : (if ((([GV.mk 6 i0 t0 l d, GV.mk 3 (A : Int) t1 l1 d1, GV.mk 3 (B : Int) t2 l2 d2].getD 0 default).list.length : Nat) : Int) < (if (0 : Int) > ([GV.mk 6 i0 t0 l d, GV.mk 3 (A : Int) t1 l1 d1, GV.mk 3 (B : Int) t2 l2 d2].getD 1 default).int then 0 else ([GV.mk 6 i0 t0 l d, GV.mk 3 (A : Int) t1 l1 d1, GV.mk 3 (B : Int) t2 l2 d2].getD 1 default).int) then ((([GV.mk 6 i0 t0 l d, GV.mk 3 (A : Int) t1 l1 d1, GV.mk 3 (B : Int) t2 l2 d2].getD 0 default).list.length : Nat) : Int) else (if (0 : Int) > ([GV.mk 6 i0 t0 l d, GV.mk 3 (A : Int) t1 l1 d1, GV.mk 3 (B : Int) t2 l2 d2].getD 1 default).int then 0 else ([GV.mk 6 i0 t0 l d, GV.mk 3 (A : Int) t1 l1 d1, GV.mk 3 (B : Int) t2 l2 d2].getD 1 default).int)) = ((F + 1 : Nat) : Int) := by
    show (if ((l.length : Nat) : Int) < (if (0 : Int) > (A : Int) then 0 else (A : Int)) then ((l.length : Nat) : Int) else (if (0 : Int) > (A : Int) then 0 else (A : Int))) = ((F + 1 : Nat) : Int)
    rw [show (if (0 : Int) > (A : Int) then (0 : Int) else (A : Int)) = (A : Int) from if_neg (by omega)]
    split <;> omega
  obtain ⟨M, hM⟩ : ∃ M, M = min B (l.length - (F + 1)) := ⟨_, rfl⟩
  have f4 : (if ((([GV.mk 6 i0 t0 l d, GV.mk 3 (A : Int) t1 l1 d1, GV.mk 3 (B : Int) t2 l2 d2].getD 0 default).list.length - (F + 1) : Nat) : Int) < (if (0 : Int) > ([GV.mk 6 i0 t0 l d, GV.mk 3 (A : Int) t1 l1 d1, GV.mk 3 (B : Int) t2 l2 d2].getD 2 default).int then 0 else ([GV.mk 6 i0 t0 l d, GV.mk 3 (A : Int) t1 l1 d1, GV.mk 3 (B : Int) t2 l2 d2].getD 2 default).int) then ((([GV.mk 6 i0 t0 l d, GV.mk 3 (A : Int) t1 l1 d1, GV.mk 3 (B : Int) t2 l2 d2].getD 0 default).list.length - (F + 1) : Nat) : Int) else (if (0 : Int) > ([GV.mk 6 i0 t0 l d, GV.mk 3 (A : Int) t1 l1 d1, GV.mk 3 (B : Int) t2 l2 d2].getD 2 default).int then 0 else ([GV.mk 6 i0 t0 l d, GV.mk 3 (A : Int) t1 l1 d1, GV.mk 3 (B : Int) t2 l2 d2].getD 2 default).int)) = ((M : Nat) : Int) := by
    show (if ((l.length - (F + 1) : Nat) : Int) < (if (0 : Int) > (B : Int) then 0 else (B : Int)) then ((l.length - (F + 1) : Nat) : Int) else (if (0 : Int) > (B : Int) then 0 else (B : Int))) = ((M : Nat) : Int)
    rw [show (if (0 : Int) > (B : Int) then (0 : Int) else (B : Int)) = (B : Int) from if_neg (by omega)]
    split <;> omega
  have hLS : sliceM l A B = (l.drop (F + 1)).take M := by unfold sliceM; rw [hF, hM]
  have hML : M ≤ l.length - (F + 1) := by omega
  have hlen : (sliceM l A B).length = M := by rw [hLS]; simp; omega
  have hget : ∀ i, i < M → (l.getD (F + 1 + i) default).cells = ((sliceM l A B).getD i default).cells := fun i hi => by rw [hLS]; exact slice_get hi hML
  have hget2 := hget
  generalize sliceM l A B = L at *
  refine PSpec.of_WC cxA_ok Tryz.func410 rfl Tryz.call410 (Nat.le_of_ble_eq_true rfl) (g := 1) ?_
  conv => whnf
  refine RegP.enter ?_
  conv => whnf
  refine RegP.enter ?_
  conv => whnf
  refine And.intro ((by decide : 0 < 3)) ?_
  conv => whnf
  refine And.intro ((by decide : 0 < 3)) ?_
  conv => whnf
  repeat' ((first | refine RegP.enter ?_ | refine DrawP.range (by kernel_rfl) ?_ | refine BuildP.frz ⟨rfl, ?_⟩ | refine BoxP.row ?_ | refine And.intro (Nat.succ_pos _) ?_ | fail); conv => whnf)
  refine call_le (hw6) ?_ (by rfl) (by rfl) ?_
  · (iterate 3 ((all_goals try (conv => whnf)); (repeat' first | exact ⟨⟩ | refine And.intro ?_ ?_ | rfl | exact fun _ h => h | exact .inl rfl | exact none_some | exact .inr in4 | fail)))
    all_goals trace_state
  conv => whnf
  repeat' ((first | refine RegP.enter ?_ | refine DrawP.range (by kernel_rfl) ?_ | refine BuildP.frz ⟨rfl, ?_⟩ | refine BoxP.row ?_ | refine And.intro (Nat.succ_pos _) ?_ | fail); conv => whnf)
  refine call_le (hw3) ?_ (by rfl) (by rfl) ?_
  · (iterate 3 ((all_goals try (conv => whnf)); (repeat' first | exact ⟨⟩ | refine And.intro ?_ ?_ | rfl | exact fun _ h => h | exact .inl rfl | exact none_some | exact .inr in4 | fail)))
    all_goals exact .inr ⟨rfl, rfl, lt2 rfl rfl⟩
  conv => whnf
  repeat' ((first | refine RegP.enter ?_ | refine DrawP.range (by kernel_rfl) ?_ | refine BuildP.frz ⟨rfl, ?_⟩ | refine BoxP.row ?_ | refine And.intro (Nat.succ_pos _) ?_ | fail); conv => whnf)
  refine call_mm [] 1 31 (newPile_ok) ?_ ?_ ?_
  · conv => whnf
    (iterate 3 ((all_goals try (conv => whnf)); (repeat' first | exact ⟨⟩ | refine And.intro ?_ ?_ | rfl | exact fun _ h => h | exact .inl rfl | exact none_some | exact .inr in4 | fail)))
  · intro _; conv => whnf
    (iterate 3 ((all_goals try (conv => whnf)); (repeat' first | exact ⟨⟩ | refine And.intro ?_ ?_ | rfl | exact fun _ h => h | exact .inl rfl | exact none_some | exact .inr in4 | fail)))
  intro x; conv => whnf
  repeat' ((first | refine RegP.enter ?_ | refine DrawP.range (by kernel_rfl) ?_ | refine BuildP.frz ⟨rfl, ?_⟩ | refine BoxP.row ?_ | refine And.intro (Nat.succ_pos _) ?_ | refine And.intro (by first | decide | assumption | omega | (simp; done) | (simp; omega)) ?_ | fail); conv => whnf)
  rw [f2]
  conv => whnf
  refine And.intro ((show F + 1 ≤ l.length by omega)) ?_
  conv => whnf
  repeat' ((first | refine RegP.enter ?_ | refine DrawP.range (by kernel_rfl) ?_ | refine BuildP.frz ⟨rfl, ?_⟩ | refine BoxP.row ?_ | refine And.intro (Nat.succ_pos _) ?_ | refine And.intro (by first | decide | assumption | omega | (simp; done) | (simp; omega)) ?_ | fail); conv => whnf)
  rw [f4]
  conv => whnf
  refine And.intro ((show M ≤ l.length - (F + 1) by omega)) ?_
  conv => whnf
  repeat' ((first | refine RegP.enter ?_ | refine DrawP.range (by kernel_rfl) ?_ | refine BuildP.frz ⟨rfl, ?_⟩ | refine BoxP.row ?_ | refine And.intro (Nat.succ_pos _) ?_ | fail); conv => whnf)
  refine ⟨2, {j : Nat // j ≤ L.length}, fun i => ([(4, .ptr (1,4,0) 0 0), (6, .ptr (1,6,0) 0 0), (92, .lz (.gl L)), (93, .int L.length), (94, .int i.1)], [((1,4,0), .cells 5 80 [[.int 0, .int 0, .str ⟨#[]⟩, .nil, .nil]]), ((1,6,0), .cells 1 8 [[.ptr (1,31,1) 0 0]]), ((1,31,1), pileRow (L.take i.1).length (2,0,0) (roomL (L.take i.1) 0 65531)), ((2,0,0), .cells 5 80 ((L.take i.1).map GV.cells))]), fun i => L.length - i.1, ⟨⟨0, Nat.zero_le _⟩, Sub.of_check [((1,4,0), .old true (1,4,0)), ((1,6,0), .old true (1,6,0)), ((1,31,1), .old true (1,31,1)), ((2,0,0), .old true (1,31,2))] ?_ (by repeat' first | exact Gen0.emp | exact Gen0.ofH rfl | refine Gen0.put ?_ (by decide) | refine Gen0.put0 ?_ ⟨_, rfl⟩)⟩, fun ⟨j, hj⟩ => ?_⟩
  · conv => whnf
    (iterate 3 ((all_goals try (conv => whnf)); (repeat' first | exact ⟨⟩ | refine And.intro ?_ ?_ | rfl | exact fun _ h => h | exact .inl rfl | exact none_some | exact .inr in4 | fail)))
    all_goals first | (show M = L.length; exact hlen.symm) | exact .inr ⟨rfl, rfl, fun i hi => hget2 i hi⟩ | (show ((M : Nat) : Int) = ((L.length : Nat) : Int); rw [hlen]) | trace_state
  conv => whnf
  refine RegP.go fun hf => ?_
  conv => whnf
  refine br (fun hl1 => ?_) (fun hl1 => ?_)
  · have hlt : j < L.length := Int.ofNat_lt.1 (of_decide_eq_true hl1)
    have hRl := hf.lz 92 _ _ _ _ _ _ rfl rfl
    have e1 := roomL_succ hlt 65531
    have e2 := take_succ' hlt
    have h1 := roomL_take L 0 65531 (j + 1)
    have h2 := roomL_le (L.take j) 0 65531
    have h3 := pileM_le j (L.getD j default) (roomL (L.take j) 0 65531)
    have hlj : (L.take j).length = j := by simp; omega
    have hla : (L.take (j + 1)).length = j + 1 := by simp; omega
    try rw [hl1]
    conv => whnf
    repeat' ((first | refine RegP.enter ?_ | refine DrawP.range (by kernel_rfl) ?_ | refine BuildP.frz ⟨rfl, ?_⟩ | refine BoxP.row ?_ | refine And.intro (Nat.succ_pos _) ?_ | fail); conv => whnf)
    refine And.intro (hlt) ?_
    conv => whnf
    refine And.intro (hlt) ?_
    conv => whnf
    repeat' ((first | refine RegP.enter ?_ | refine DrawP.range (by kernel_rfl) ?_ | refine BuildP.frz ⟨rfl, ?_⟩ | refine BoxP.row ?_ | refine And.intro (Nat.succ_pos _) ?_ | fail); conv => whnf)
    generalize hy : L.getD j default = y at *
    have hadd := add_yes (L.take j) y (roomL (L.take j) 0 65531) (by omega) (by omega) (by omega) (by rw [hlj]; omega)
    refine call_mm [((0,0,0), .old true (1,31,1)), ((0,1,0), .old false (2,0,0))] 2 100 (hadd) ?_ ?_ ?_
    · conv => whnf
      (iterate 3 ((all_goals try (conv => whnf)); (repeat' first | exact ⟨⟩ | refine And.intro ?_ ?_ | rfl | exact fun _ h => h | exact .inl rfl | exact none_some | exact .inr in4 | fail)))
      all_goals first | exact idfL_map idfL_cells _ | trace_state
    · intro _; conv => whnf
      (iterate 3 ((all_goals try (conv => whnf)); (repeat' first | exact ⟨⟩ | refine And.intro ?_ ?_ | rfl | exact fun _ h => h | exact .inl rfl | exact none_some | exact .inr in4 | fail)))
    intro x; conv => whnf
    repeat' ((first | refine RegP.enter ?_ | refine DrawP.range (by kernel_rfl) ?_ | refine BuildP.frz ⟨rfl, ?_⟩ | refine BoxP.row ?_ | refine And.intro (Nat.succ_pos _) ?_ | fail); conv => whnf)
    refine ⟨⟨j + 1, hlt⟩, (by show L.length - (j + 1) < L.length - j; omega), Sub.of_check [((1,4,0), .old true (1,4,0)), ((1,6,0), .old true (1,6,0)), ((1,31,1), .old true (1,31,1)), ((2,0,0), .old false (2,100,2))] ?_ (by repeat' first | exact Gen0.emp | exact Gen0.ofH rfl | refine Gen0.put ?_ (by decide) | refine Gen0.put0 ?_ ⟨_, rfl⟩)⟩
    conv => whnf
    (iterate 3 ((all_goals try (conv => whnf)); (repeat' first | exact ⟨⟩ | refine And.intro ?_ ?_ | rfl | exact fun _ h => h | exact .inl rfl | exact none_some | exact .inr in4 | fail)))
    all_goals first | exact wrap_succ hlt (le_of_mul (k := 79) hRl) | (show (L.take j).length + 1 = (L.take (j + 1)).length; rw [hlj, hla]) | (show pileM (L.take j).length y (roomL (L.take j) 0 65531) = roomL (L.take (j + 1)) 0 65531; rw [hlj]; exact e1.symm) | (rw [renLL_map idfL_cells, e2]) | exact idfL_map idfL_cells _ | trace_state
  have hge : j = L.length := by
    have h' : ¬ ((j : Int) < ((L.length : Nat) : Int)) := of_decide_eq_false hl1
    have : j ≤ L.length := hj
    omega
  subst hge
  have hfull : L.take L.length = L := List.take_length
  try rw [hl1]
  conv => whnf
  repeat' ((first | refine RegP.enter ?_ | refine DrawP.range (by kernel_rfl) ?_ | refine BuildP.frz ⟨rfl, ?_⟩ | refine BoxP.row ?_ | refine And.intro (Nat.succ_pos _) ?_ | fail); conv => whnf)
  refine Ent.of_check ?_ rfl
  conv => whnf
  (iterate 3 ((all_goals try (conv => whnf)); (repeat' first | exact ⟨⟩ | refine And.intro ?_ ?_ | rfl | exact fun _ h => h | exact .inl rfl | exact none_some | exact .inr in4 | fail)))
  all_goals rw [hfull]
  all_goals first | rfl | exact len_map _ _ | exact frz_all idfL_cells _
end Go.Eng

/- Loops2: an engine for the program's code, and walks of its functions (Lg Lh Li Lj Lp Lq). -/
import Derived.Test.YtlcepambcoobgaaGreatDoorLoops1
import Derived.Test.YtlcepambcoobgaaGreatDoorEng17
import Derived.Test.YtlcepambcoobgaaGreatDoorEng24
namespace Go.Eng
open Go.Proofs
set_option maxRecDepth 10000
theorem mapE_bd {ev : Nd → GV → List (ByteArray × GV) → Int → Rs GV} (hev : EvOk ev) (nm : ByteArray) (over body : Nd) (doc : GV) (s : List (ByteArray × GV)) (k : Int) (hk : StepOk k) : RsBd k (mapE ev nm over body doc s k) := by
  unfold mapE
  have h := (step_ok hev over doc s k hk).2
  generalize stepF ev over doc s k = r at *
  cases r with
  | unk => trivial
  | fail e k' => exact h
  | ok g k' =>
    have hkk : k ≤ k' := by have := h.1; omega
    dsimp only
    cases nothingM g with
    | true => exact ⟨hkk, h.2⟩
    | false =>
      cases decide (g.kind = 6) with
      | false => exact h.2
      | true =>
        have h2 := (mapP_bd hev (doc := doc) (s := s) (nm := nm) (body := body) g.list 0 65531 k' h.2).mono hkk
        dsimp only
        generalize mapP ev doc s nm body g.list 0 65531 k' = r at *
        cases r <;> exact h2
theorem redE_bd {ev : Nd → GV → List (ByteArray × GV) → Int → Rs GV} (hev : EvOk ev) (over first body : Nd) (doc : GV) (s : List (ByteArray × GV)) (k : Int) (hk : StepOk k) : RsBd k (redE ev over first body doc s k) := by
  unfold redE
  have h := (step_ok hev over doc s k hk).2
  generalize stepF ev over doc s k = r at *
  cases r with
  | unk => trivial
  | fail e k' => exact h
  | ok g k' =>
    have hkk : k ≤ k' := by have := h.1; omega
    dsimp only
    cases nothingM g with
    | true => exact ⟨hkk, h.2⟩
    | false =>
      cases decide (g.kind = 6) with
      | false => exact h.2
      | true =>
        have h1 := (step_ok hev first doc s k' h.2).2
        dsimp only
        generalize stepF ev first doc s k' = r1 at *
        cases r1 with
        | unk => trivial
        | fail e k2 => exact h1
        | ok f k2 =>
          have hk2 : k ≤ k2 := by have := h1.1; omega
          exact (redP_bd hev (doc := doc) (s := s) (body := body) g.list (fullM f) k2 h1.2).mono hk2
/-- Whatever is told of an expression is so. -/
theorem evalL_ok {O : Ops} (hlo : LoOk O) (hst : StOk O) : ∀ n, EvOk (evalL O n)
  | 0 => fun _ _ _ _ _ => ⟨trivial, trivial⟩
  | n + 1 => fun x doc s k hk => by
    have ih := evalL_ok hlo hst n
    cases x with
    | lit g => exact ⟨lit_ok g doc s k, Int.le_refl k, hk⟩
    | con g => exact ⟨con_ok g doc s k, Int.le_refl k, hk⟩
    | fld p => exact ⟨fld_ok p doc s k, Int.le_refl k, hk⟩
    | var m p => exact ⟨var_ok m p doc s k, Int.le_refl k, hk⟩
    | lst l =>
      have h1 := lst_ok ih l doc s k hk
      have h2 := pileP_bd ih (doc := doc) (s := s) l 0 65531 k hk
      have e : evalL O (n + 1) (.lst l) doc s k = liftL [] (pileP (evalL O n) doc s l 0 65531 k) := by
        rw [evalL]
        generalize pileP (evalL O n) doc s l 0 65531 k = r
        cases r <;> rfl
      rw [e]
      refine ⟨h1, ?_⟩
      generalize pileP (evalL O n) doc s l 0 65531 k = r at *
      cases r <;> exact h2
    | docm l => exact ⟨trivial, trivial⟩
    | loop op nm over first body =>
      show RsSpec 446 [(Nd.loop op nm over first body).val, .ptr (0,0,0) 0 0, scAV s] doc k (loopE (evalL O n) op nm over first body doc s k) ∧ RsBd k (loopE (evalL O n) op nm over first body doc s k)
      unfold loopE
      cases h1 : decide (op = oReduce) with
      | true =>
        cases first with
        | none => exact ⟨trivial, trivial⟩
        | some f =>
          cases h2 : decide (nm = (⟨#[]⟩ : ByteArray)) with
          | false => exact ⟨trivial, trivial⟩
          | true =>
            have e1 := of_decide_eq_true h1
            have e2 := of_decide_eq_true h2
            subst e1; subst e2
            exact ⟨red_ok ih over f body doc s k hk, redE_bd ih over f body doc s k hk⟩
      | false =>
        cases first with
        | some f => exact ⟨trivial, trivial⟩
        | none =>
          cases h2 : decide (op = oMap) with
          | false => exact ⟨trivial, trivial⟩
          | true =>
            have e1 := of_decide_eq_true h2
            subst e1
            exact ⟨map_ok ih nm over body doc s k hk, mapE_bd ih nm over body doc s k hk⟩
    | call op args =>
      show RsSpec 388 [.agg [.str op, .lz (.gn args)], .ptr (0,0,0) 0 0, scAV s] doc k (callP O (evalL O n) op args doc s k) ∧ RsBd k (callP O (evalL O n) op args doc s k)
      unfold callP
      cases t1 : decide (op = oLiteral) with
      | true =>
        have := of_decide_eq_true t1
        subst this
        cases args with
        | nil => exact ⟨trivial, trivial⟩
        | cons a l => exact ⟨quote_ok ih a l doc s k hk, (ih a doc s k hk).2⟩
      | false =>
        cases t2 : decide (op = oAnd) with
        | true => exact ⟨trivial, trivial⟩
        | false =>
        cases t3 : decide (op = oOr) with
        | true => exact ⟨trivial, trivial⟩
        | false =>
        cases t4 : decide (op = oCond) with
        | true =>
          have := of_decide_eq_true t4
          subst this
          match args with
          | [] => exact ⟨trivial, trivial⟩
          | [_] => exact ⟨trivial, trivial⟩
          | [_, _] => exact ⟨trivial, trivial⟩
          | [a, b, c] => exact ⟨cond_ok ih a b c doc s k hk, condP_bd ih a b c doc s k hk⟩
          | _ :: _ :: _ :: _ :: _ => exact ⟨trivial, trivial⟩
        | false =>
        cases t5 : decide (op = oIfNull) with
        | true => exact ⟨trivial, trivial⟩
        | false => exact ⟨plain_ok hlo hst ih op args doc s k hk t1 t2 t3 t4 t5, plainP_bd hst ih op args doc s k hk⟩
end Go.Eng
namespace Go.Eng
open Go.Proofs
set_option maxRecDepth 10000
def looseL (op : ByteArray) (l : List GV) : Lo := match memB op [oReverse, oSlice, oJoin] with | true => .none | false => looseI op l
def sliceOk (g a b : GV) : Bool := decide (g.kind = 6) && decide (g.list.length ≤ 60000) && decide (a.kind = 3) && decide (b.kind = 3) && decide (0 ≤ a.int) && decide (a.int ≤ 100000) && decide (0 ≤ b.int) && decide (b.int ≤ 100000) && decide (0 ≤ roomL (sliceM g.list a.int.toNat b.int.toNat) 0 65531)
def strictL (op : ByteArray) (l : List GV) (k : Int) : Rs GV :=
  match decide (op = oReverse) with
  | true => (match l with
    | [g] => (match decide (g.kind = 6) && decide (g.list.length ≤ 60000) && decide (0 ≤ roomL g.list.reverse 0 65531) with | true => .ok (gList g.list.reverse) k | false => .unk)
    | _ => .unk)
  | false => match decide (op = oSlice) with
    | true => (match l with
      | [g, a, b] => (match sliceOk g a b with | true => .ok (gList (sliceM g.list a.int.toNat b.int.toNat)) k | false => .unk)
      | _ => .unk)
    | false => match decide (op = oJoin) with
      | true => (match l with
        | [] => .unk
        | g :: r => (match allKind 6 (g :: r) && decide (0 ≤ roomL (joinM (g :: r)) 0 65531) with | true => .ok (gList (joinM (g :: r))) k | false => .unk))
      | false => strictI op l k
def OL : Ops := ⟨looseL, strictL⟩
theorem loOkL : LoOk OL := by
  intro op l
  show match looseL op l with | .unk => True | .some g => _ | .none => _
  unfold looseL
  cases h : memB op [oReverse, oSlice, oJoin] with
  | false => exact loOk op l
  | true =>
    have hm : op = oReverse ∨ op = oSlice ∨ op = oJoin := by simpa [memB] using h
    rcases hm with rfl | rfl | rfl
    · exact loose_oReverse l
    · exact loose_oSlice l
    · exact loose_oJoin l
theorem stOkL : StOk OL := by
  intro op l doc k hk
  show RsSpec 395 _ doc k (strictL op l k) ∧ RsBd k (strictL op l k)
  unfold strictL
  cases h1 : decide (op = oReverse) with
  | true =>
    have := of_decide_eq_true h1
    subst this
    match l with
    | [] => exact ⟨trivial, trivial⟩
    | _ :: _ :: _ => exact ⟨trivial, trivial⟩
    | [g] =>
      dsimp only
      cases hg : decide (g.kind = 6) && decide (g.list.length ≤ 60000) && decide (0 ≤ roomL g.list.reverse 0 65531) with
      | false => exact ⟨trivial, trivial⟩
      | true =>
        simp only [Bool.and_eq_true, decide_eq_true_eq] at hg
        exact ⟨strict_lists (.inl rfl) [g] _ (reverse_ok g hg.1.1 hg.1.2 hg.2) doc k, Int.le_refl k, hk⟩
  | false =>
    cases h2 : decide (op = oSlice) with
    | true =>
      have := of_decide_eq_true h2
      subst this
      match l with
      | [] => exact ⟨trivial, trivial⟩
      | [_] => exact ⟨trivial, trivial⟩
      | [_, _] => exact ⟨trivial, trivial⟩
      | _ :: _ :: _ :: _ :: _ => exact ⟨trivial, trivial⟩
      | [g, a, b] =>
        dsimp only
        cases hg : sliceOk g a b with
        | false => exact ⟨trivial, trivial⟩
        | true =>
          unfold sliceOk at hg
          simp only [Bool.and_eq_true, decide_eq_true_eq] at hg
          obtain ⟨⟨⟨⟨⟨⟨⟨⟨q1, q2⟩, q3⟩, q4⟩, q5⟩, q6⟩, q7⟩, q8⟩, q9⟩ := hg
          obtain ⟨ka, na, ta, la, da⟩ := a
          obtain ⟨kb, nb, tb, lb, db⟩ := b
          replace q3 : ka = 3 := q3
          replace q4 : kb = 3 := q4
          replace q5 : 0 ≤ na := q5
          replace q6 : na ≤ 100000 := q6
          replace q7 : 0 ≤ nb := q7
          replace q8 : nb ≤ 100000 := q8
          subst q3; subst q4
          obtain ⟨A, rfl⟩ := Int.eq_ofNat_of_zero_le q5
          obtain ⟨B, rfl⟩ := Int.eq_ofNat_of_zero_le q7
          exact ⟨strict_lists (.inr (.inl rfl)) _ _ (slc_ok g A B ta tb la lb da db q1 q2 (by omega) (by omega) q9) doc k, Int.le_refl k, hk⟩
    | false =>
      cases h3 : decide (op = oJoin) with
      | true =>
        have := of_decide_eq_true h3
        subst this
        match l with
        | [] => exact ⟨trivial, trivial⟩
        | g :: r =>
          dsimp only
          cases hg : allKind 6 (g :: r) && decide (0 ≤ roomL (joinM (g :: r)) 0 65531) with
          | false => exact ⟨trivial, trivial⟩
          | true =>
            simp only [Bool.and_eq_true, decide_eq_true_eq] at hg
            exact ⟨strict_lists (.inr (.inr rfl)) _ _ (join_ok g r hg.1 hg.2) doc k, Int.le_refl k, hk⟩
      | false => exact stOk op l doc k hk
theorem evalLL_ok (n : Nat) : EvOk (evalL OL n) := evalL_ok loOkL stOkL n
end Go.Eng
namespace Go.Eng
open Go.Proofs
set_option maxRecDepth 10000
theorem ndec {α : Type} (a : α) [Decidable (a = a)] : (!decide (a = a)) = false := by simp
theorem same_spec : ∀ (n : Nat) (g : GV), SizeOf.sizeOf g < n → PSpec cxA 28 [.agg g.cells, .agg g.cells] (.ret (.bool true)) := by
  intro n
  induction n with
  | zero => intro g h; exact absurd h (Nat.not_lt_zero _)
  | succ n ih =>
  intro g hg
  obtain ⟨kind, int, text, list, doc⟩ := g
  refine PSpec.of_WC cxA_ok Tryz.func28 rfl Tryz.call28 (Nat.le_of_ble_eq_true rfl) (g := 1) ?_
  conv => whnf
  repeat' ((first | refine RegP.enter ?_ | refine DrawP.range (by kernel_rfl) ?_ | refine BuildP.frz ⟨rfl, ?_⟩ | refine BoxP.row ?_ | refine And.intro (Nat.succ_pos _) ?_ | fail); conv => whnf)
  repeat' ((first | refine RegP.enter ?_ | refine DrawP.range (by kernel_rfl) ?_ | refine BuildP.frz ⟨rfl, ?_⟩ | refine BoxP.row ?_ | refine And.intro (Nat.succ_pos _) ?_ | rw [bne_self_eq_false] | rw [ndec] | fail); conv => whnf)
  refine ⟨2, {i : Nat // i ≤ list.length}, fun i => ([(2, .ptr (1,2,0) 0 0), (3, .ptr (1,3,0) 0 0), (5, .int i.1)], [((1,2,0), .cells 5 80 [[.int kind, .int int, .str text, .lz (.gl list), .lz (.gd doc)]]), ((1,3,0), .cells 5 80 [[.int kind, .int int, .str text, .lz (.gl list), .lz (.gd doc)]])]), fun i => list.length - i.1, ⟨⟨0, Nat.zero_le _⟩, Sub.of_check [((1,2,0), .old true (1,2,0)), ((1,3,0), .old true (1,3,0))] ?_ (by repeat' first | exact Gen0.emp | exact Gen0.ofH rfl | refine Gen0.put ?_ (by decide) | refine Gen0.put0 ?_ ⟨_, rfl⟩)⟩, fun ⟨i, hi⟩ => ?_⟩
  · conv => whnf
    (iterate 3 ((all_goals try (conv => whnf)); (repeat' first | exact ⟨⟩ | refine And.intro ?_ ?_ | rfl | exact fun _ h => h | exact .inl rfl | exact none_some | exact .inr in4 | fail)))
  conv => whnf
  refine RegP.go fun hf => ?_
  conv => whnf
  refine br (fun hl => ?_) (fun hl => ?_)
  · have hlt : i < list.length := by simpa using hl
    try rw [hl]
    conv => whnf
    refine RegP.go fun hf => ?_
    conv => whnf
    have hR := hf.lz 48 _ _ _ _ _ _ rfl rfl
    refine DrawP.range (by kernel_rfl) ?_
    conv => whnf
    repeat' first | (refine And.intro hlt ?_; conv => whnf)
    have hsm := GV.sizeOf_list (k := kind) (n := int) (t := text) (d := doc) (show list.getD i default ∈ list by simp [hlt])
    refine call_same (ih (list.getD i default) (by omega)) rfl ?_
    conv => whnf
    repeat' ((first | refine RegP.enter ?_ | refine DrawP.range (by kernel_rfl) ?_ | refine BuildP.frz ⟨rfl, ?_⟩ | refine BoxP.row ?_ | refine And.intro (Nat.succ_pos _) ?_ | refine And.intro (by first | decide | assumption | omega | (simp; done) | (simp; omega)) ?_ | fail); conv => whnf)
    refine ⟨⟨i + 1, hlt⟩, (by show list.length - (i + 1) < list.length - i; omega), Sub.of_check [((1,2,0), .old true (1,2,0)), ((1,3,0), .old true (1,3,0))] ?_ (by repeat' first | exact Gen0.emp | exact Gen0.ofH rfl | refine Gen0.put ?_ (by decide) | refine Gen0.put0 ?_ ⟨_, rfl⟩)⟩
    conv => whnf
    (iterate 3 ((all_goals try (conv => whnf)); (repeat' first | exact ⟨⟩ | refine And.intro ?_ ?_ | rfl | exact fun _ h => h | exact .inl rfl | exact none_some | exact .inr in4 | fail)))
    all_goals first | exact wrap_succ hlt (le_of_mul (k := 79) hR)
  have hge : i = list.length := by
    have : ¬ i < list.length := by simpa using hl
    omega
  subst hge
  try rw [hl]
  conv => whnf
  repeat' ((first | refine RegP.enter ?_ | refine DrawP.range (by kernel_rfl) ?_ | refine BuildP.frz ⟨rfl, ?_⟩ | refine BoxP.row ?_ | refine And.intro (Nat.succ_pos _) ?_ | fail); conv => whnf)
  refine ⟨3, {i : Nat // i ≤ doc.length}, fun i => ([(2, .ptr (1,2,0) 0 0), (3, .ptr (1,3,0) 0 0), (7, .int i.1)], [((1,2,0), .cells 5 80 [[.int kind, .int int, .str text, .lz (.gl list), .lz (.gd doc)]]), ((1,3,0), .cells 5 80 [[.int kind, .int int, .str text, .lz (.gl list), .lz (.gd doc)]])]), fun i => doc.length - i.1, ⟨⟨0, Nat.zero_le _⟩, Sub.of_check [((1,2,0), .old true (1,2,0)), ((1,3,0), .old true (1,3,0))] ?_ (by repeat' first | exact Gen0.emp | exact Gen0.ofH rfl | refine Gen0.put ?_ (by decide) | refine Gen0.put0 ?_ ⟨_, rfl⟩)⟩, fun ⟨i, hi⟩ => ?_⟩
  · conv => whnf
    (iterate 3 ((all_goals try (conv => whnf)); (repeat' first | exact ⟨⟩ | refine And.intro ?_ ?_ | rfl | exact fun _ h => h | exact .inl rfl | exact none_some | exact .inr in4 | fail)))
  conv => whnf
  refine RegP.go fun hf => ?_
  conv => whnf
  refine br (fun hl2 => ?_) (fun hl2 => ?_)
  · have hlt : i < doc.length := by simpa using hl2
    try rw [hl2]
    conv => whnf
    refine RegP.go fun hf => ?_
    conv => whnf
    have hR := hf.lz 68 _ _ _ _ _ _ rfl rfl
    refine DrawP.range (by kernel_rfl) ?_
    conv => whnf
    repeat' first | (refine And.intro hlt ?_; conv => whnf)
    have hsm := GV.sizeOf_doc (k := kind) (n := int) (t := text) (l := list) (show doc.getD i default ∈ doc by simp [hlt])
    refine call_same (ih (doc.getD i default).2 (by omega)) rfl ?_
    conv => whnf
    refine RegP.enter ?_
    conv => whnf
    refine DrawP.range (by kernel_rfl) ?_
    conv => whnf
    repeat' first | (refine And.intro hlt ?_; conv => whnf) | (rw [ndec]; conv => whnf)
    repeat' ((first | refine RegP.enter ?_ | refine DrawP.range (by kernel_rfl) ?_ | refine BuildP.frz ⟨rfl, ?_⟩ | refine BoxP.row ?_ | refine And.intro (Nat.succ_pos _) ?_ | fail); conv => whnf)
    refine ⟨⟨i + 1, hlt⟩, (by show doc.length - (i + 1) < doc.length - i; omega), Sub.of_check [((1,2,0), .old true (1,2,0)), ((1,3,0), .old true (1,3,0))] ?_ (by repeat' first | exact Gen0.emp | exact Gen0.ofH rfl | refine Gen0.put ?_ (by decide) | refine Gen0.put0 ?_ ⟨_, rfl⟩)⟩
    conv => whnf
    (iterate 3 ((all_goals try (conv => whnf)); (repeat' first | exact ⟨⟩ | refine And.intro ?_ ?_ | rfl | exact fun _ h => h | exact .inl rfl | exact none_some | exact .inr in4 | fail)))
    all_goals first | exact wrap_succ hlt (le_of_mul (k := 95) hR)
  have hge : i = doc.length := by
    have : ¬ i < doc.length := by simpa using hl2
    omega
  subst hge
  try rw [hl2]
  conv => whnf
  repeat' ((first | refine RegP.enter ?_ | refine DrawP.range (by kernel_rfl) ?_ | refine BuildP.frz ⟨rfl, ?_⟩ | refine BoxP.row ?_ | refine And.intro (Nat.succ_pos _) ?_ | fail); conv => whnf)
  refine Ent.of_check ?_ rfl
  conv => whnf
  (iterate 3 ((all_goals try (conv => whnf)); (repeat' first | exact ⟨⟩ | refine And.intro ?_ ?_ | rfl | exact fun _ h => h | exact .inl rfl | exact none_some | exact .inr in4 | fail)))
theorem same_ok (g : GV) : PSpec cxA 28 [.agg g.cells, .agg g.cells] (.ret (.bool true)) := same_spec _ g (Nat.lt_succ_self _)
end Go.Eng
namespace Go.Eng
open Go.Proofs
set_option maxRecDepth 20000
abbrev ints (ns : List Int) : List GV := ns.map gInt
def smalls (ns : List Int) : Prop := ∀ n, n ∈ ns → -1000000 ≤ n ∧ n ≤ 1000000
theorem smalls_cons {n : Int} {ns : List Int} (h : smalls (n :: ns)) : (-1000000 ≤ n ∧ n ≤ 1000000) ∧ smalls ns := ⟨h n (by simp), fun m hm => h m (by simp [hm])⟩
theorem itoaN (i : Nat) (h : i ≤ 100000) : (Lib.itoa (i : Int)).length ≤ 21 := Lib.itoa_length_le (i : Int) (by omega) (by omega)
/-! What is right, and how long it is. -/
theorem sz_gInt (n : Int) : (gInt n).sz = 8 := by rfl
theorem size_gInt (n : Int) : sizeM (gInt n) = 8 := by rfl
theorem szL_ints : ∀ (ns : List Int) (i : Nat), i + ns.length ≤ 100000 → szL i (ints ns) ≤ 31 * ns.length
  | [], i, _ => by simp [szL]
  | n :: ns, i, h => by
    simp only [List.length_cons] at h ⊢
    have h1 := szL_ints ns (i + 1) (by omega)
    have h2 := itoaN i (by omega)
    show szL i (gInt n :: ints ns) ≤ _
    simp only [szL, sz_gInt]
    omega
theorem roomL_ints : ∀ (ns : List Int) (i : Nat) (r : Int), i + ns.length ≤ 100000 → r - 31 * ns.length ≤ roomL (ints ns) i r
  | [], i, r, _ => by simp [roomL]
  | n :: ns, i, r, h => by
    simp only [List.length_cons] at h ⊢
    have h1 := roomL_ints ns (i + 1) (pileM i (gInt n) r) (by omega)
    have h2 := itoaN i (by omega)
    show _ ≤ roomL (gInt n :: ints ns) i r
    simp only [roomL]
    have h3 : pileM i (gInt n) r = r - (2 + (Lib.itoa i).length + 8) := by unfold pileM; rw [size_gInt]
    omega
theorem sz_ints {ns : List Int} (h : ns.length ≤ 100) : (gList (ints ns)).sz ≤ 3105 := by
  have := szL_ints ns 0 (by omega)
  show 5 + szL 0 (ints ns) ≤ _
  omega
theorem sz_doc (n : ByteArray) (g : GV) : (gDoc n g).sz = 5 + (2 + n.size + g.sz + 0) := by rfl
theorem sz_list (l : List GV) : (gList l).sz = 5 + szL 0 l := by rfl
theorem checkL_ints (d : Nat) : ∀ ns : List Int, checkL d (ints ns) = 0
  | [] => rfl
  | n :: ns => by
    show checkL d (gInt n :: ints ns) = 0
    have e : checkM d (gInt n) = 0 := by rfl
    simp only [checkL, e, checkL_ints d ns]
    rfl
def quoted (ns : List Int) : GV := gDoc oLiteral (gList (ints ns))
def quotedN (ns : List Int) : Nd := .call oLiteral [.con (gList (ints ns))]
theorem checkL_cons {d : Nat} {g : GV} {l : List GV} (h : checkM d g = 0) (h2 : checkL d l = 0) : checkL d (g :: l) = 0 := by
  simp only [checkL, h, h2]; rfl
theorem checkD_cons {d : Nat} {met : List ByteArray} {n : ByteArray} {g : GV} {l : List (ByteArray × GV)} (hn : (memB n met || !nameM n) = false) (h : checkM d g = 0) (h2 : checkD d (n :: met) l = 0) : checkD d met ((n, g) :: l) = 0 := by
  unfold checkD; rw [hn, h]; exact h2
theorem check_list {d : Nat} {l : List GV} (hd : d ≤ 20) (h : checkL (d + 1) l = 0) : checkM d (gList l) = 0 := by
  show checkM d (.mk 6 0 ⟨#[]⟩ l []) = 0
  unfold checkM
  have : decide (20 < d) = false := decide_eq_false (by omega)
  rw [h, this]
  rfl
theorem check_docs {d : Nat} {l : List (ByteArray × GV)} (hd : d ≤ 20) (h : checkD (d + 1) [] l = 0) : checkM d (.mk 5 0 ⟨#[]⟩ [] l) = 0 := by
  unfold checkM
  have : decide (20 < d) = false := decide_eq_false (by omega)
  rw [this]
  exact h
theorem check_doc {d : Nat} {n : ByteArray} {g : GV} (hd : d ≤ 20) (hn : (memB n [] || !nameM n) = false) (h : checkM (d + 1) g = 0) : checkM d (gDoc n g) = 0 :=
  check_docs hd (checkD_cons hn h rfl)
theorem check_call {d : Nat} {n : ByteArray} {l : List GV} (hd : d ≤ 19) (hn : (memB n [] || !nameM n) = false) (h : checkL (d + 1 + 1) l = 0) : checkM d (gCall n l) = 0 :=
  check_doc (by omega) hn (check_list (by omega) h)
theorem check_quoted {d : Nat} (hd : d ≤ 19) (ns : List Int) : checkM d (quoted ns) = 0 :=
  check_doc (by omega) rfl (check_list (by omega) (checkL_ints _ ns))
theorem sz_quoted {ns : List Int} (h : ns.length ≤ 100) : (quoted ns).sz ≤ 3120 := by
  have h1 := sz_ints h
  have h2 : (quoted ns).sz = 5 + (2 + 8 + (gList (ints ns)).sz + 0) := sz_doc _ _
  omega
theorem sz_call1 (n : ByteArray) (g : GV) : (gCall n [g]).sz ≤ 5 + (2 + n.size + (5 + (2 + 21 + g.sz))) := by
  have h0 := itoaN 0 (by decide)
  have e : (gCall n [g]).sz = 5 + (2 + n.size + (5 + (2 + (Lib.itoa ((0 : Nat) : Int)).length + g.sz + 0)) + 0) := by rfl
  omega
theorem sz_call2 (n : ByteArray) (g h : GV) : (gCall n [g, h]).sz ≤ 5 + (2 + n.size + (5 + (2 + 21 + g.sz) + (2 + 21 + h.sz))) := by
  have h0 := itoaN 0 (by decide)
  have h1 := itoaN 1 (by decide)
  have e : (gCall n [g, h]).sz = 5 + (2 + n.size + (5 + (2 + (Lib.itoa ((0 : Nat) : Int)).length + g.sz + (2 + (Lib.itoa ((1 : Nat) : Int)).length + h.sz + 0))) + 0) := by rfl
  omega
theorem sz_call3 (n : ByteArray) (g h i : GV) : (gCall n [g, h, i]).sz ≤ 5 + (2 + n.size + (5 + (2 + 21 + g.sz) + (2 + 21 + h.sz) + (2 + 21 + i.sz))) := by
  have h0 := itoaN 0 (by decide)
  have h1 := itoaN 1 (by decide)
  have h2 := itoaN 2 (by decide)
  have e : (gCall n [g, h, i]).sz = 5 + (2 + n.size + (5 + (2 + (Lib.itoa ((0 : Nat) : Int)).length + g.sz + (2 + (Lib.itoa ((1 : Nat) : Int)).length + h.sz + (2 + (Lib.itoa ((2 : Nat) : Int)).length + i.sz + 0)))) + 0) := by rfl
  omega
theorem right_of {g : GV} (hz : g.sz ≤ 65536) (hc : checkM 1 g = 0) : rightM g = 0 := by
  unfold rightM; rw [if_pos hz]; exact hc
/-! The four expressions. -/
abbrev tX : ByteArray := ⟨#[120]⟩
abbrev tDDX : ByteArray := ⟨#[36, 36, 120]⟩
abbrev tDDV : ByteArray := ⟨#[36, 36, 118, 97, 108, 117, 101]⟩
abbrev tDDT : ByteArray := ⟨#[36, 36, 116, 104, 105, 115]⟩
def exRev (ns : List Int) : GV := gCall oReverse [gCall oReverse [quoted ns]]
def exJoin (ns : List Int) (k : Int) : GV := gCall oJoin [gCall oSlice [quoted ns, gInt 0, gInt k], gCall oSlice [quoted ns, gInt k, gInt 1000]]
def exMap (ns : List Int) : GV := gDoc oMap (.mk 5 0 ⟨#[]⟩ [] [(sInput, quoted ns), (sAs, gText tX), (sIn, gCall oAdd [gText tDDX, gText tDDX])])
def exRed (ns : List Int) : GV := gDoc oReduce (.mk 5 0 ⟨#[]⟩ [] [(sInput, quoted ns), (sInitial, gInt 0), (sIn, gCall oAdd [gText tDDV, gText tDDT])])
theorem right_rev {ns : List Int} (h : ns.length ≤ 100) : rightM (exRev ns) = 0 := by
  have h1 := sz_quoted h
  have h2 := sz_call1 oReverse (quoted ns)
  have h3 := sz_call1 oReverse (gCall oReverse [quoted ns])
  have e : oReverse.size = 8 := rfl
  exact right_of (by unfold exRev; omega) (check_call (by decide) rfl (checkL_cons (check_call (by decide) rfl (checkL_cons (check_quoted (by decide) ns) rfl)) rfl))
theorem right_join {ns : List Int} (h : ns.length ≤ 100) (k : Int) : rightM (exJoin ns k) = 0 := by
  have h1 := sz_quoted h
  have h2 := sz_call3 oSlice (quoted ns) (gInt 0) (gInt k)
  have h3 := sz_call3 oSlice (quoted ns) (gInt k) (gInt 1000)
  have h4 := sz_call2 oJoin (gCall oSlice [quoted ns, gInt 0, gInt k]) (gCall oSlice [quoted ns, gInt k, gInt 1000])
  have e : oSlice.size = 6 := rfl
  have e2 : oJoin.size = 5 := rfl
  have z1 := sz_gInt 0
  have z2 := sz_gInt k
  have z3 := sz_gInt 1000
  have c1 : ∀ n d, checkM d (gInt n) = 0 := fun n d => by rfl
  exact right_of (by unfold exJoin; omega) (check_call (by decide) rfl (checkL_cons (check_call (by decide) rfl (checkL_cons (check_quoted (by decide) ns) (checkL_cons (c1 _ _) (checkL_cons (c1 _ _) rfl)))) (checkL_cons (check_call (by decide) rfl (checkL_cons (check_quoted (by decide) ns) (checkL_cons (c1 _ _) (checkL_cons (c1 _ _) rfl)))) rfl)))
theorem right_map {ns : List Int} (h : ns.length ≤ 100) : rightM (exMap ns) = 0 := by
  have h1 := sz_quoted h
  have h2 := sz_call2 oAdd (gText tDDX) (gText tDDX)
  have e0 : oAdd.size = 4 := rfl
  have e1 : (gText tDDX).sz = 8 := by rfl
  have e : (exMap ns).sz = 5 + (2 + 4 + (5 + (2 + 5 + (quoted ns).sz + (2 + 2 + 6 + (2 + 2 + (gCall oAdd [gText tDDX, gText tDDX]).sz + 0)))) + 0) := by rfl
  exact right_of (by omega) (check_doc (by decide) rfl (check_docs (by decide) (checkD_cons rfl (check_quoted (by decide) ns) (by rfl))))
theorem right_red {ns : List Int} (h : ns.length ≤ 100) : rightM (exRed ns) = 0 := by
  have h1 := sz_quoted h
  have h2 := sz_call2 oAdd (gText tDDV) (gText tDDT)
  have e0 : oAdd.size = 4 := rfl
  have e1 : (gText tDDV).sz = 12 := by rfl
  have e2 : (gText tDDT).sz = 11 := by rfl
  have e : (exRed ns).sz = 5 + (2 + 7 + (5 + (2 + 5 + (quoted ns).sz + (2 + 7 + 8 + (2 + 2 + (gCall oAdd [gText tDDV, gText tDDT]).sz + 0)))) + 0) := by rfl
  exact right_of (by omega) (check_doc (by decide) rfl (check_docs (by decide) (checkD_cons rfl (check_quoted (by decide) ns) (by rfl))))
theorem parse_rev (ns : List Int) : parseF 6 [] (exRev ns) = .yes (.call oReverse [.call oReverse [quotedN ns]]) := by rfl
theorem parse_join (ns : List Int) (k : Int) : parseF 6 [] (exJoin ns k) = .yes (.call oJoin [.call oSlice [quotedN ns, .lit (gInt 0), .lit (gInt k)], .call oSlice [quotedN ns, .lit (gInt k), .lit (gInt 1000)]]) := by rfl
theorem parse_map (ns : List Int) : parseF 6 [] (exMap ns) = .yes (.loop oMap tX (quotedN ns) none (.call oAdd [.var tX [], .var tX []])) := by rfl
theorem parse_red (ns : List Int) : parseF 6 [] (exRed ns) = .yes (.loop oReduce ⟨#[]⟩ (quotedN ns) (some (.lit (gInt 0))) (.call oAdd [.var sValue [], .var sThis []])) := by rfl
end Go.Eng
namespace Go.Eng
open Go.Proofs
set_option maxRecDepth 20000
/-! What the four come to. -/
section
variable {n : Nat} {doc : GV} {s : List (ByteArray × GV)} {k : Int}
theorem step_lit {g : GV} (hk : k < 20000) : stepF (evalL OL (n + 1)) (.lit g) doc s k = .ok g (k + 1) := by
  unfold stepF; rw [decide_eq_false (by omega)]; rfl
theorem step_quoted {ns : List Int} (hk : k < 20000) : stepF (evalL OL (n + 2)) (quotedN ns) doc s k = .ok (gList (ints ns)) (k + 1) := by
  unfold stepF; rw [decide_eq_false (by omega)]; rfl
theorem step_var {m : ByteArray} {g : GV} (hk : k < 20000) (hl : lookS m s = some g) : stepF (evalL OL (n + 1)) (.var m []) doc s k = .ok g (k + 1) := by
  unfold stepF; rw [decide_eq_false (by omega)]
  show (Rs.ok (pickM [] (match lookS m s with | some g => g | none => doc)) (k + 1) : Rs GV) = _
  rw [hl]
  obtain ⟨a, b, c, d, e⟩ := g
  rfl
theorem row_nil : rowP (evalL OL n) doc s [] k = .ok [] k := rfl
theorem row_cons {x : Nd} {l : List Nd} {g : GV} {r : List GV} {k1 k2 : Int} (h1 : stepF (evalL OL n) x doc s k = .ok g k1) (h2 : rowP (evalL OL n) doc s l k1 = .ok r k2) : rowP (evalL OL n) doc s (x :: l) k = .ok (g :: r) k2 := by
  simp only [rowP, h1, h2]
theorem step_call {op : ByteArray} {args : List Nd} {l : List GV} {g : GV} {k1 : Int} (hk : k < 20000) (h0 : decide (op = oLiteral) = false) (h1 : (decide (op = oAnd) || decide (op = oOr)) = false) (h2 : decide (op = oCond) = false) (h3 : decide (op = oIfNull) = false) (hr : rowP (evalL OL n) doc s args (k + 1) = .ok l k1) (hl : looseL op l = .none) (hn : l.any nothingM = false) (hs : strictL op l k1 = .ok g k1) (hz : g.sz ≤ 65536) : stepF (evalL OL (n + 1)) (.call op args) doc s k = .ok g k1 := by
  unfold stepF; rw [decide_eq_false (by omega)]
  show callP OL (evalL OL n) op args doc s (k + 1) = _
  unfold callP
  rw [h0, h1, h2, h3]
  show plainP OL (evalL OL n) op args doc s (k + 1) = _
  unfold plainP
  rw [hr]
  show (match looseL op l with | .unk => _ | .some g => _ | .none => _) = _
  rw [hl, hn]
  show (match strictL op l k1 with | .unk => _ | .fail e k => _ | .ok g k => _) = _
  rw [hs]
  show withinM g k1 = _
  unfold withinM
  rw [decide_eq_false (by omega)]
end
theorem any_list (l : List GV) : [gList l].any nothingM = false := rfl
theorem inInt_of {n : Int} (h : -1000000000 ≤ n ∧ n ≤ 1000000000) : inInt n = true := inInt_iff.2 (by omega)
theorem strict_rev {ns : List Int} (h : ns.length ≤ 100) (k : Int) : strictL oReverse [gList (ints ns)] k = .ok (gList (ints ns).reverse) k := by
  have h1 := roomL_ints ns.reverse 0 65531 (by simp; omega)
  rw [List.length_reverse] at h1
  have e : strictL oReverse [gList (ints ns)] k = (match true && decide ((ints ns).length ≤ 60000) && decide (0 ≤ roomL (ints ns).reverse 0 65531) with | true => .ok (gList (ints ns).reverse) k | false => .unk) := by rfl
  rw [e, ← List.map_reverse, decide_eq_true (by simp; omega), decide_eq_true (show 0 ≤ roomL (ints ns.reverse) 0 65531 by omega)]
  rfl
theorem step_rev {ns : List Int} (h : ns.length ≤ 100) (doc : GV) : stepF (evalL OL 4) (.call oReverse [.call oReverse [quotedN ns]]) doc [] 0 = .ok (gList (ints ns)) 3 := by
  have hr : ns.reverse.length ≤ 100 := by simpa using h
  have z1 := sz_ints h
  have z2 := sz_ints hr
  have s1 := strict_rev h 3
  have s2 := strict_rev hr 3
  have e1 : (ints ns).reverse = ints ns.reverse := by simp
  have e2 : (ints ns.reverse).reverse = ints ns := by simp
  rw [e1] at s1
  rw [e2] at s2
  refine step_call (l := [gList (ints ns.reverse)]) (by decide) rfl rfl rfl rfl ?_ rfl rfl s2 (by omega)
  refine row_cons (k1 := 3) ?_ row_nil
  refine step_call (l := [gList (ints ns)]) (by decide) rfl rfl rfl rfl ?_ rfl rfl s1 (by omega)
  exact row_cons (step_quoted (by decide)) row_nil
theorem strict_slice {ns : List Int} (h : ns.length ≤ 100) {A B : Nat} (hA : A ≤ 1000) (hB : B ≤ 1000) (k : Int) : strictL oSlice [gList (ints ns), gInt A, gInt B] k = .ok (gList (sliceM (ints ns) A B)) k := by
  have e2 : sliceM (ints ns) A B = ints ((ns.drop (min A ns.length)).take (min B (ns.length - min A ns.length))) := by
    unfold sliceM ints
    rw [List.length_map, ← List.map_drop, ← List.map_take]
  have h1 := roomL_ints ((ns.drop (min A ns.length)).take (min B (ns.length - min A ns.length))) 0 65531 (by simp; omega)
  have e : strictL oSlice [gList (ints ns), gInt A, gInt B] k = (match sliceOk (gList (ints ns)) (gInt A) (gInt B) with | true => .ok (gList (sliceM (ints ns) (Int.toNat A) (Int.toNat B))) k | false => .unk) := by rfl
  have e3 : sliceOk (gList (ints ns)) (gInt A) (gInt B) = true := by
    unfold sliceOk
    simp only [Bool.and_eq_true, decide_eq_true_eq]
    refine ⟨⟨⟨⟨⟨⟨⟨⟨rfl, ?_⟩, rfl⟩, rfl⟩, ?_⟩, ?_⟩, ?_⟩, ?_⟩, ?_⟩
    · show (ints ns).length ≤ 60000
      simp; omega
    · show (0 : Int) ≤ A
      omega
    · show (A : Int) ≤ 100000
      omega
    · show (0 : Int) ≤ B
      omega
    · show (B : Int) ≤ 100000
      omega
    · show 0 ≤ roomL (sliceM (ints ns) (Int.toNat A) (Int.toNat B)) 0 65531
      rw [Int.toNat_natCast, Int.toNat_natCast, e2]
      have : ((ns.drop (min A ns.length)).take (min B (ns.length - min A ns.length))).length ≤ 100 := by simp; omega
      omega
  rw [e, e3, Int.toNat_natCast, Int.toNat_natCast]
theorem slice_fst (ns : List Int) {A : Nat} : sliceM (ints ns) 0 A = ints (ns.take A) := by
  unfold sliceM ints
  rw [List.length_map, Nat.zero_min, List.drop_zero, ← List.map_take, Nat.sub_zero]
  congr 1
  rcases Nat.le_total A ns.length with h | h
  · rw [Nat.min_eq_left h]
  · rw [Nat.min_eq_right h, List.take_of_length_le h, List.take_of_length_le (Nat.le_refl _)]
theorem slice_snd {ns : List Int} (h : ns.length ≤ 100) {A : Nat} : sliceM (ints ns) A 1000 = ints (ns.drop A) := by
  unfold sliceM ints
  rw [List.length_map, ← List.map_drop, ← List.map_take, Nat.min_eq_right (by omega)]
  congr 1
  rw [List.take_of_length_le (by simp)]
  rcases Nat.le_total A ns.length with h | h
  · rw [Nat.min_eq_left h]
  · rw [Nat.min_eq_right h, List.drop_of_length_le h, List.drop_of_length_le (Nat.le_refl _)]
theorem strict_join {ns : List Int} (h : ns.length ≤ 100) (A : Nat) (k : Int) : strictL oJoin [gList (ints (ns.take A)), gList (ints (ns.drop A))] k = .ok (gList (ints ns)) k := by
  have e1 : joinM [gList (ints (ns.take A)), gList (ints (ns.drop A))] = ints ns := by
    show ints (ns.take A) ++ (ints (ns.drop A) ++ []) = ints ns
    rw [List.append_nil, ← List.map_append, List.take_append_drop]
  have h1 := roomL_ints ns 0 65531 (by omega)
  have e : strictL oJoin [gList (ints (ns.take A)), gList (ints (ns.drop A))] k = (match true && decide (0 ≤ roomL (joinM [gList (ints (ns.take A)), gList (ints (ns.drop A))]) 0 65531) with | true => .ok (gList (joinM [gList (ints (ns.take A)), gList (ints (ns.drop A))])) k | false => .unk) := by rfl
  rw [e, e1, decide_eq_true (by omega)]
  rfl
theorem step_join {ns : List Int} (h : ns.length ≤ 100) {A : Nat} (hA : A ≤ 1000) (doc : GV) : stepF (evalL OL 4) (.call oJoin [.call oSlice [quotedN ns, .lit (gInt 0), .lit (gInt A)], .call oSlice [quotedN ns, .lit (gInt A), .lit (gInt 1000)]]) doc [] 0 = .ok (gList (ints ns)) 9 := by
  have z0 := sz_ints h
  have z1 := sz_ints (ns := ns.take A) (by simp; omega)
  have z2 := sz_ints (ns := ns.drop A) (by simp; omega)
  have s1 := strict_slice h (A := 0) (B := A) (by decide) hA 5
  have s2 := strict_slice h (A := A) (B := 1000) hA (by decide) 9
  rw [slice_fst] at s1
  rw [slice_snd h] at s2
  refine step_call (l := [gList (ints (ns.take A)), gList (ints (ns.drop A))]) (by decide) rfl rfl rfl rfl ?_ rfl rfl (strict_join h A 9) (by omega)
  refine row_cons (k1 := 5) ?_ (row_cons (k1 := 9) ?_ row_nil)
  · refine step_call (l := [gList (ints ns), gInt 0, gInt A]) (by decide) rfl rfl rfl rfl ?_ rfl rfl s1 (by omega)
    exact row_cons (step_quoted (by decide)) (row_cons (step_lit (by decide)) (row_cons (step_lit (by decide)) row_nil))
  · refine step_call (l := [gList (ints ns), gInt A, gInt 1000]) (by decide) rfl rfl rfl rfl ?_ rfl rfl s2 (by omega)
    exact row_cons (step_quoted (by decide)) (row_cons (step_lit (by decide)) (row_cons (step_lit (by decide)) row_nil))
end Go.Eng
namespace Go.Eng
open Go.Proofs
set_option maxRecDepth 20000
section
variable {n : Nat} {doc : GV} {s : List (ByteArray × GV)} {k : Int}
theorem strictL_add {a b : Int} (ha : -1000000000 ≤ a ∧ a ≤ 1000000000) (hb : -1000000000 ≤ b ∧ b ≤ 1000000000) (k : Int) : strictL oAdd [gInt a, gInt b] k = .ok (gInt (a + b)) k := by
  have ia : inInt a = true := inInt_iff.2 (by omega)
  have ib : inInt b = true := inInt_iff.2 (by omega)
  have ic : inInt (a + b) = true := inInt_iff.2 (by omega)
  show strictI oAdd [gInt a, gInt b] k = _
  unfold strictI
  rw [all_two ia ib]
  show numR (match inInt (a + b) with | true => .ok (a + b) k | false => .fail 52 k) = _
  rw [ic]
  rfl
theorem step_add {x y : ByteArray} {a b : Int} (hk : k + 2 < 20000) (hx : lookS x s = some (gInt a)) (hy : lookS y s = some (gInt b)) (ha : -1000000000 ≤ a ∧ a ≤ 1000000000) (hb : -1000000000 ≤ b ∧ b ≤ 1000000000) : stepF (evalL OL (n + 2)) (.call oAdd [.var x [], .var y []]) doc s k = .ok (gInt (a + b)) (k + 3) := by
  have z := sz_gInt (a + b)
  refine step_call (l := [gInt a, gInt b]) (by omega) rfl rfl rfl rfl ?_ rfl rfl (strictL_add ha hb _) (by omega)
  exact row_cons (step_var (by omega) hx) (row_cons (step_var (by omega) hy) (by rw [show k + 1 + 1 + 1 = k + 3 by omega]; exact row_nil))
end
abbrev dbl (ns : List Int) : List Int := ns.map fun n => n + n
abbrev bodyM : Nd := .call oAdd [.var tX [], .var tX []]
abbrev bodyR : Nd := .call oAdd [.var sValue [], .var sThis []]
theorem map_ints {n : Nat} {doc : GV} : ∀ (ns : List Int) (i : Nat) (r k : Int), smalls ns → i + ns.length ≤ 100000 → 31 * ns.length ≤ r → k + 3 * ns.length < 20000 → mapP (evalL OL (n + 2)) doc [] tX bodyM (ints ns) i r k = .ok (ints (dbl ns)) (k + 3 * ns.length)
  | [], i, r, k, _, _, _, _ => by
    show (Rs.ok [] k : Rs (List GV)) = .ok [] (k + 3 * 0)
    rw [show k + 3 * 0 = k by omega]
  | a :: ns, i, r, k, hs, hi, hr, hk => by
    obtain ⟨ha, hs⟩ := smalls_cons hs
    simp only [List.length_cons] at hi hr hk
    have h2 := itoaN i (by omega)
    have h1 : pileM i (gInt (a + a)) r = r - (2 + (Lib.itoa i).length + 8) := by unfold pileM; rw [size_gInt]
    have h3 := map_ints (n := n) (doc := doc) ns (i + 1) (pileM i (gInt (a + a)) r) (k + 3) hs (by omega) (by omega) (by omega)
    have h4 : stepF (evalL OL (n + 2)) bodyM doc ((tX, gInt a) :: []) k = .ok (gInt (a + a)) (k + 3) := step_add (by omega) rfl rfl (by omega) (by omega)
    show mapP (evalL OL (n + 2)) doc [] tX bodyM (gInt a :: ints ns) i r k = _
    unfold mapP
    rw [h4]
    show (match decide (pileM i (gInt (a + a)) r < 0) with | true => Rs.fail 3 (k + 3) | false => match mapP (evalL OL (n + 2)) doc [] tX bodyM (ints ns) (i + 1) (pileM i (gInt (a + a)) r) (k + 3) with | .unk => Rs.unk | .fail e k => Rs.fail e k | .ok r k => Rs.ok (gInt (a + a) :: r) k) = _
    rw [decide_eq_false (by omega), h3]
    show (Rs.ok _ _ : Rs (List GV)) = .ok _ _
    congr 1
    simp only [List.length_cons]; omega
def sumI (s : Int) : List Int → Int
  | [] => s
  | a :: ns => sumI (s + a) ns
theorem red_ints {n : Nat} {doc : GV} : ∀ (ns : List Int) (t k : Int), smalls ns → -1000000 * (900 - ns.length) ≤ t → t ≤ 1000000 * (900 - ns.length) → ns.length ≤ 500 → k + 3 * ns.length < 20000 → redP (evalL OL (n + 2)) doc [] bodyR (ints ns) (gInt t) k = .ok (gInt (sumI t ns)) (k + 3 * ns.length)
  | [], t, k, _, _, _, _, _ => by
    show withinM (gInt t) k = .ok (gInt t) (k + 3 * 0)
    rw [show k + 3 * 0 = k by omega]
    have z := sz_gInt t
    unfold withinM
    rw [decide_eq_false (by omega)]
  | a :: ns, t, k, hs, h1, h2, hn, hk => by
    obtain ⟨ha, hs⟩ := smalls_cons hs
    simp only [List.length_cons] at h1 h2 hk hn
    have h3 := red_ints (n := n) (doc := doc) ns (t + a) (k + 3) hs (by omega) (by omega) (by omega) (by omega)
    have h4 : stepF (evalL OL (n + 2)) bodyR doc ((sThis, gInt a) :: (sValue, gInt t) :: []) k = .ok (gInt (t + a)) (k + 3) := step_add (by omega) rfl rfl (by omega) (by omega)
    show redP (evalL OL (n + 2)) doc [] bodyR (gInt a :: ints ns) (gInt t) k = _
    unfold redP
    rw [h4]
    show redP (evalL OL (n + 2)) doc [] bodyR (ints ns) (gInt (t + a)) (k + 3) = _
    rw [h3]
    show (Rs.ok _ _ : Rs GV) = .ok _ _
    congr 1
    simp only [List.length_cons]; omega
theorem step_map {ns : List Int} (h : ns.length ≤ 100) (hs : smalls ns) (doc : GV) : stepF (evalL OL 4) (.loop oMap tX (quotedN ns) none bodyM) doc [] 0 = .ok (gList (ints (dbl ns))) (2 + 3 * ns.length) := by
  have e : stepF (evalL OL 4) (.loop oMap tX (quotedN ns) none bodyM) doc [] 0 = mapE (evalL OL 3) tX (quotedN ns) bodyM doc [] 1 := by rfl
  rw [e]
  unfold mapE
  rw [step_quoted (by decide)]
  show (match mapP (evalL OL 3) doc [] tX bodyM (ints ns) 0 65531 2 with | .unk => Rs.unk | .fail e k => Rs.fail e k | .ok l k => Rs.ok (gList l) k) = _
  rw [map_ints (n := 1) ns 0 65531 2 hs (by omega) (by omega) (by omega)]
theorem step_red {ns : List Int} (h : ns.length ≤ 100) (hs : smalls ns) (doc : GV) : stepF (evalL OL 4) (.loop oReduce ⟨#[]⟩ (quotedN ns) (some (.lit (gInt 0))) bodyR) doc [] 0 = .ok (gInt (sumI 0 ns)) (3 + 3 * ns.length) := by
  have e : stepF (evalL OL 4) (.loop oReduce ⟨#[]⟩ (quotedN ns) (some (.lit (gInt 0))) bodyR) doc [] 0 = redE (evalL OL 3) (quotedN ns) (.lit (gInt 0)) bodyR doc [] 1 := by rfl
  rw [e]
  unfold redE
  rw [step_quoted (by decide)]
  show (match stepF (evalL OL 3) (.lit (gInt 0)) doc [] 2 with | .unk => Rs.unk | .fail e k => Rs.fail e k | .ok f k => redP (evalL OL 3) doc [] bodyR (ints ns) (fullM f) k) = _
  rw [step_lit (by decide)]
  exact red_ints (n := 1) ns 0 3 hs (by omega) (by omega) (by omega) (by omega)
/-! Worked. -/
theorem work_rev {ns : List Int} (h : ns.length ≤ 100) (doc : GV) : PSpec cxA 26 [.agg (exRev ns).cells, .agg doc.cells] (.ret (.tup [.agg (gList (ints ns)).cells, .int 0])) := by
  have := work_yes (evalLL_ok 4) (doc := doc) (right_rev h) (parse_rev ns) (by rw [step_rev h]; simp)
  rw [step_rev h] at this
  exact this
theorem work_join {ns : List Int} (h : ns.length ≤ 100) {A : Nat} (hA : A ≤ 1000) (doc : GV) : PSpec cxA 26 [.agg (exJoin ns A).cells, .agg doc.cells] (.ret (.tup [.agg (gList (ints ns)).cells, .int 0])) := by
  have := work_yes (evalLL_ok 4) (doc := doc) (right_join h A) (parse_join ns A) (by rw [step_join h hA]; simp)
  rw [step_join h hA] at this
  exact this
theorem work_map {ns : List Int} (h : ns.length ≤ 100) (hs : smalls ns) (doc : GV) : PSpec cxA 26 [.agg (exMap ns).cells, .agg doc.cells] (.ret (.tup [.agg (gList (ints (dbl ns))).cells, .int 0])) := by
  have := work_yes (evalLL_ok 4) (doc := doc) (right_map h) (parse_map ns) (by rw [step_map h hs]; simp)
  rw [step_map h hs] at this
  exact this
theorem work_red {ns : List Int} (h : ns.length ≤ 100) (hs : smalls ns) (doc : GV) : PSpec cxA 26 [.agg (exRed ns).cells, .agg doc.cells] (.ret (.tup [.agg (gInt (sumI 0 ns)).cells, .int 0])) := by
  have := work_yes (evalLL_ok 4) (doc := doc) (right_red h) (parse_red ns) (by rw [step_red h hs]; simp)
  rw [step_red h hs] at this
  exact this
end Go.Eng

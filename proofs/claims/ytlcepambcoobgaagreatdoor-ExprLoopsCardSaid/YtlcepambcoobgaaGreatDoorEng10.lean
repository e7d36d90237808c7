/- Eng10: an engine for the program's code, and walks of its functions (Rf Yd En Rn Ar). -/
import Derived.Test.YtlcepambcoobgaaGreatDoorEng09
import Derived.RangeFuncSeq
import Derived.RangeFuncCalls
import Derived.Laws.Cover3
/- Ranges over functions: the rule for the caller. -/
namespace Go.Eng
/-- Names of generation 0 alone. -/
def gen0 : AV → Bool
  | .row r _ _ _ => Nat.beq r.1 0
  | .ptr r _ _ => Nat.beq r.1 0
  | .mref r => Nat.beq r.1 0
  | .ifc _ v => gen0 v
  | .agg l => gen0L l
  | .tup l => gen0L l
  | .clo _ a b => gen0L a && gen0L b
  | _ => true
where gen0L : List AV → Bool
  | [] => true
  | v :: l => gen0 v && gen0L l
theorem gen0L_get : ∀ {l : List AV} {i : Nat} (h : i < l.length), gen0.gen0L l = true → gen0 l[i] = true
  | v :: l, 0, _, h => (Bool.and_eq_true_iff.1 h).1
  | v :: l, i + 1, hi, h => gen0L_get (l := l) (Nat.lt_of_succ_lt_succ hi) (Bool.and_eq_true_iff.1 h).2
theorem Rep.mono0 {w w' : World} {μ μ' : Id → Option Loc} {F F' : Nat → Prop} (hk : ∀ b, F b → w'.heap[b]? = w.heap[b]?) (hF : ∀ b, F b → F' b) (hm : ∀ r l, r.1 = 0 → μ r = some l → μ' r = some l) {av v} (h : Rep w μ F av v) : gen0 av = true → Rep w' μ' F' av v := by
  induction h with
  | frz h => exact fun _ => .frz (h.mono hk hF)
  | row0 h1 h2 h3 => exact fun h0 => .row0 (hm _ _ (Nat.eq_of_beq_eq_true h0) h1) h2 h3
  | row h1 h2 h3 h4 h5 h6 h7 => exact fun h0 => .row (hm _ _ (Nat.eq_of_beq_eq_true h0) h1) h2 h3 h4 h5 h6 h7
  | ptr h1 h2 => exact fun h0 => .ptr (hm _ _ (Nat.eq_of_beq_eq_true h0) h1) h2
  | clo h1 h2 _ _ ih1 ih2 => exact fun h0 => .clo h1 h2 (fun i h h' => ih1 i h h' (gen0L_get h (Bool.and_eq_true_iff.1 h0).1)) (fun i h h' => ih2 i h h' (gen0L_get h (Bool.and_eq_true_iff.1 h0).2))
  | ifc _ ih => exact fun h0 => .ifc (ih h0)
  | agg h1 _ ih => exact fun h0 => .agg h1 fun i h h' => ih i h h' (gen0L_get h h0)
  | tup h1 _ ih => exact fun h0 => .tup h1 fun i h h' => ih i h h' (gen0L_get h h0)
  | mref h1 h2 => exact fun h0 => .mref (hm _ _ (Nat.eq_of_beq_eq_true h0) h1) h2
/-- What a round does. -/
def YSpec (cx : Cx) (l : Nat) (r : Loop) (x : List AV) (w0 : World) (μ0 : Id → Option Loc) (F0 : Nat → Prop) (L0 L L' : List (Id × Row)) : Prop :=
  ∀ w μ F vs n, HRep w μ F (ofH L) → GOK cx w F → FrB w0 μ0 F0 (ofH L0) w μ F (ofH L) → All2 (RepF w F) x vs →
    RoundIn Fence.wide n cx.P l r.fn ((r.params.zip ⟨vs⟩).foldl (fun tmps (t, a) => tmps.setIfInBounds t a) r.tmps) r.assign r.body w
      fun e w' => e = .returned (.bool true) ∧ ∃ μ' F', HRep w' μ' F' (ofH L') ∧ GOK cx w' F' ∧ FrB w μ F (ofH L) w' μ' F' (ofH L')
/-- A function that hands on these values, one behind another. -/
def ISpec (cx : Cx) (gf : FuncId) (cap : List AV) (xs : List (List AV)) : Prop :=
  ∀ (l : Nat) (r : Loop) (HG : Nat → List (Id × Row)) w μ F caps n, HRep w μ F (ofH (HG 0)) → GOK cx w F → All2 (RepF w F) cap caps →
    w.heap[l]? = some (.loop r) → (∀ x, x ∈ xs → x.length = r.params.size) →
    (∀ j x, xs[j]? = some x → YSpec cx l r x w μ F (HG 0) (HG j) (HG (j + 1))) →
    CallsIn Fence.wide n cx.P gf (#[.func (.yield l) #[] #[]] ++ ⟨caps⟩) w fun e w' => (∃ v, e = .returned v) ∧ ∃ μ' F', HRep w' μ' F' (ofH (HG xs.length)) ∧ GOK cx w' F' ∧ FrB w μ F (ofH (HG 0)) w' μ' F' (ofH (HG xs.length))
/-- The temporaries with a round's values. -/
def parT : List Nat → List AV → TT → TT
  | p :: ps, x :: xs, T => parT ps xs (T.put p x)
  | _, _, T => T
theorem heap_push_old' (h : Array Obj) (o : Obj) {b : Nat} (hb : b < h.size) : (h.push o)[b]? = h[b]? := by rw [Array.getElem?_push, if_neg (by omega)]
theorem heap_push_new' (h : Array Obj) (o : Obj) : (h.push o)[h.size]? = some o := by simp
theorem entSL_reps {w : World} {μ : Id → Option Loc} {F : Nat → Prop} : ∀ {l m : List AV} {vs : List Value}, EntSL l m → All2 (Rep w μ F) l vs → All2 (RepF w F) m vs
  | [], [], _, _, h => by cases h; exact .nil
  | x :: l, y :: m, _, hc, h => by
    cases h with
    | cons h1 h2 => exact .cons (hc.1 w μ F _ h1) (entSL_reps hc.2 h2)
  | [], _ :: _, _, hc, _ => hc.elim
  | _ :: _, [], _, hc, _ => hc.elim
theorem foldl_size : ∀ (l : List (Tmp × Value)) (t : Array Value), (l.foldl (fun t (p : Tmp × Value) => t.setIfInBounds p.1 p.2) t).size = t.size
  | [], _ => rfl
  | _ :: l, t => by rw [List.foldl_cons, foldl_size l]; simp
theorem parT_ok {w : World} {μ : Id → Option Loc} {F : Nat → Prop} {nt : Nat} : ∀ (ps : List Nat) (x : List AV) (vs : List Value) (T : TT) (t : Array Value), All2 (RepF w F) x vs → x.length = ps.length → (∀ p, p ∈ ps → p < nt) → t.size = nt →
    (∀ k av, T k = some av → Rep w μ F av (t.getD k undef)) → (∀ k av, T k = some av → k < nt) →
    (∀ k av, parT ps x T k = some av → Rep w μ F av (((ps.zip vs).foldl (fun t (p : Nat × Value) => t.setIfInBounds p.1 p.2) t).getD k undef)) ∧ (∀ k av, parT ps x T k = some av → k < nt)
  | [], _, vs, T, t, _, _, _, _, h, h' => ⟨fun k av hk => h k av hk, fun k av hk => h' k av hk⟩
  | p :: ps, x :: xs, v :: vs, T, t, ha, hl, hp, hs, h, h' => by
    have hpn := hp p (by simp)
    cases ha with
    | cons h1 h2 =>
    refine parT_ok ps xs vs (T.put p x) (t.setIfInBounds p v) h2 (by simpa using hl) (fun q hq => hp q (by simp [hq])) (by simpa using hs) (fun k av hk => ?_) (fun k av hk => ?_)
    · by_cases e : k = p
      · subst e
        rw [TT.put_same] at hk; cases hk
        rw [Array.getD_eq_getD_getElem?, Array.getElem?_setIfInBounds_self, if_pos (by omega)]
        exact .frz h1
      · rw [TT.put_ne _ _ e] at hk
        have := h k av hk
        rw [Array.getD_eq_getD_getElem?, Array.getElem?_setIfInBounds_ne (fun e' => e e'.symm)]
        rwa [Array.getD_eq_getD_getElem?] at this
    · by_cases e : k = p
      · subst e; exact hpn
      · rw [TT.put_ne _ _ e] at hk; exact h' k av hk
  | p :: ps, [], [], T, t, _, hl, _, _, _, _ => by simp at hl
section
variable {cx : Cx} {nt : Nat}
theorem HRep.notLv {w : World} {μ : Id → Option Loc} {F : Nat → Prop} {H : HH} (h : HRep w μ F H) {b : Nat} (hb : F b) : ¬ Lv μ H b := fun ⟨r, row, l, h1, h2, h3, h4⟩ => h.disj r row l b h1 h2 h3 h4 hb
theorem FrB.keepF {w μ F H w' μ' F' H'} (f : FrB w μ F H w' μ' F' H') (h : HRep w μ F H) {b : Nat} (hb : F b) : w'.heap[b]? = w.heap[b]? := f.keep b (h.lt b hb) (h.notLv hb)
/-- One round. -/
theorem round_ok (ok : CxOK cx) {l : Nat} {r : Loop} {x : List AV} {w0 : World} {μ0 : Id → Option Loc} {F0 : Nat → Prop} {L0 L L' : List (Id × Row)} {g : Nat} (TL : List (Nat × AV)) (h0 : HRep w0 μ0 F0 (ofH L0))
    (hl : w0.heap[l]? = some (.loop r)) (hr : r.state = .ready) (hpe : r.pending = none) (hlF : ¬ F0 l) (hlL : ¬ Lv μ0 (ofH L0) l)
    (hT : ∀ t av, ofL TL t = some av → Rep w0 μ0 F0 av (r.tmps.getD t undef)) (hTb : ∀ t av, ofL TL t = some av → t < nt) (hg0 : ∀ t av, ofL TL t = some av → gen0 av = true) (hn : r.tmps.size = nt) (hps : ∀ p, p ∈ r.params.toList → p < nt) (hx : x.length = r.params.size)
    (hda : noDf r.assign = true) (hdb : noDf r.body = true)
    (hw : WC cx nt g (.seq r.assign r.body) (parT r.params.toList x (ofL TL)) (ofH L) (fun e _ H' => match e with | .normal => Sub TT.emp H' TT.emp (ofH L') | _ => False)) :
    YSpec cx l r x w0 μ0 F0 L0 L L' := by
  intro w μ F vs n hH hG hf ha
  have llt : l < w0.heap.size := (Array.getElem?_eq_some_iff.1 hl).1
  have lw : w.heap[l]? = some (.loop r) := (hf.keep l llt hlL).trans hl
  have lF : ¬ F l := fun h => (hf.fr' l h).elim hlF fun h => h.elim (fun h => by omega) hlL
  have lL : ¬ Lv μ (ofH L) l := fun h => (hf.lv l h).elim (fun h => by omega) hlL
  have llw : l < w.heap.size := (Array.getElem?_eq_some_iff.1 lw).1
  have hz : (r.params.zip ⟨vs⟩).foldl (fun tmps (p : Tmp × Value) => tmps.setIfInBounds p.1 p.2) r.tmps = (r.params.toList.zip vs).foldl (fun tmps (p : Tmp × Value) => tmps.setIfInBounds p.1 p.2) r.tmps := by
    rw [← Array.foldl_toList]; simp
  obtain ⟨hpt, hpb⟩ := parT_ok (w := w) (μ := μ) (F := F) (nt := nt) r.params.toList x vs (ofL TL) r.tmps ha (by simpa using hx) hps hn (fun k av hk => (hT k av hk).mono0 (fun b hb => hf.keepF h0 hb) hf.fr hf.mu (hg0 k av hk)) (fun k av hk => hTb k av hk)
  refine roundIn_of_wpIn trivial ?_
  have s0 : SimX cx nt ⟨w, μ, F, ofH L, [], false⟩ (parT r.params.toList x (ofL TL)) (ofH L) { tmps := (r.params.zip ⟨vs⟩).foldl (fun tmps (p : Tmp × Value) => tmps.setIfInBounds p.1 p.2) r.tmps, defers := [] } w μ F := by
    refine ⟨hH, hG, fun k av hk => ?_, hpb, ?_, .none, ⟨rfl, rfl, rfl, Nat.le_refl _, fun _ _ _ => rfl, fun _ _ _ h => h, fun _ h => h, fun _ h => .inl h, fun _ h => .inr h⟩⟩
    · show Rep w μ F av (Array.getD _ k undef)
      rw [hz]; exact hpt k av hk
    · show Array.size _ = nt
      rw [hz, foldl_size, hn]
  have hE : ∀ c, noDf c = true → ((some l : Option Nat) = none ∧ ((⟨w, μ, F, ofH L, [], false⟩ : Entry).col = true ∨ noRF c = true)) ∨ noDf c = true := fun c h => .inr h
  refine wpIn_mono (WC_soundF ok (n := n) r.assign (some l) (.inr hda) g _ _ _ hw _ _ _ _ s0) fun e a1 w1 hq => ?_
  obtain ⟨ae, T1, H1, μ1, F1, hk, s1, hr1⟩ := hq
  have l1 : ∀ {T H w' μ' F'} {a' : Act}, SimX cx nt ⟨w, μ, F, ofH L, [], false⟩ T H a' w' μ' F' → w'.heap[l]? = some (.loop r) ∧ ¬ F' l ∧ ¬ Lv μ' H l := fun s => ⟨(s.f.keep l llw lL).trans lw, fun h => (s.f.fr' l h).elim lF fun h => h.elim (fun h => by have : w.heap.size ≤ l := h; omega) lL, fun h => (s.f.lv l h).elim (fun h => by have : w.heap.size ≤ l := h; omega) lL⟩
  cases hr1 with
  | normal =>
    obtain ⟨g1, g2, g3⟩ := l1 s1
    have l1w : l < w1.heap.size := (Array.getElem?_eq_some_iff.1 g1).1
    refine ⟨_, run_beginRound g1 hr, ?_⟩
    generalize hW2 : w1.putObj l (.loop { r with state := .busy }) = W2
    have kb : ∀ b, b ≠ l → W2.heap[b]? = w1.heap[b]? := fun b hb => by rw [← hW2]; exact World.putObj_heap_other hb
    have sz2 : W2.heap.size = w1.heap.size := by rw [← hW2]; simp
    have l2 : W2.heap[l]? = some (.loop { r with state := .busy }) := by rw [← hW2]; exact World.putObj_heap_same l1w
    have o2 : W2.os = w1.os ∧ W2.tape = w1.tape ∧ W2.output = w1.output := by rw [← hW2]; exact ⟨rfl, rfl, rfl⟩
    have s2 : SimX cx nt ⟨W2, μ1, F1, H1, [], false⟩ T1 H1 a1 W2 μ1 F1 := by
      have kf : ∀ b, F1 b → W2.heap[b]? = w1.heap[b]? := fun b hb => kb b fun e => g2 (e ▸ hb)
      refine ⟨s1.h.keepLv (by rw [sz2]; exact Nat.le_refl _) kf (fun b hb => kb b fun e => g3 (e ▸ hb)), s1.g.mono kf (fun _ h => h), fun t av ht => (s1.t t av ht).mono kf (fun _ h => h) (fun _ _ h => h), s1.b, s1.n, ?_, ⟨rfl, rfl, rfl, Nat.le_refl _, fun _ _ _ => rfl, fun _ _ _ h => h, fun _ h => h, fun _ h => .inl h, fun _ h => .inr h⟩⟩
      have : a1.defers = [] := s1.d.e rfl
      rw [this]; exact Marks.none (E := ⟨W2, μ1, F1, H1, [], false⟩)
    refine wpIn_mono (WC_soundF ok (n := n) r.body (some l) (.inr hdb) g _ _ _ hk _ _ _ _ s2) fun e a3 w3 hq => ?_
    obtain ⟨ae, T3, H3, μ3, F3, hk3, s3, hr3⟩ := hq
    cases hr3 with
    | normal =>
      have g4 : w3.heap[l]? = some (.loop { r with state := .busy }) := (s3.f.keep l (by show l < W2.heap.size; omega) g3).trans l2
      have l3w : l < w3.heap.size := (Array.getElem?_eq_some_iff.1 g4).1
      refine ⟨_, _, run_endRound none g4, ?_⟩
      have er : ({ ({ r with state := .busy } : Loop) with state := if (none : Option Code).isNone then .ready else .done, pending := none } : Loop) = r := by
        cases r; simp only at hr hpe; subst hr; subst hpe; rfl
      rw [er]
      refine ⟨rfl, ?_⟩
      obtain ⟨μ4, F4, k1, k2, k3, k4, k5, k6⟩ := hk3 w3 μ3 F3 (fun _ => undef) s3.h (fun t av ht => by cases ht)
      have nF4 : ¬ F4 l := fun h => (k4 l h).elim (fun h => (s3.f.fr' l h).elim g2 fun h => h.elim (fun h => by have : W2.heap.size ≤ l := h; omega) g3) fun h => (s3.f.lv l h).elim (fun h => by have : W2.heap.size ≤ l := h; omega) g3
      have nL4 : ¬ Lv μ4 (ofH L') l := fun h => (s3.f.lv l (k5 l h)).elim (fun h => by have : W2.heap.size ≤ l := h; omega) g3
      have kc : ∀ b, b ≠ l → (w3.putObj l (.loop r)).heap[b]? = w3.heap[b]? := fun b hb => World.putObj_heap_other hb
      have kf4 : ∀ b, F4 b → (w3.putObj l (.loop r)).heap[b]? = w3.heap[b]? := fun b hb => kc b fun e => nF4 (e ▸ hb)
      have hsz : (w3.putObj l (.loop r)).heap.size = w3.heap.size := by simp
      have f2s : W2.heap.size ≤ w3.heap.size := s3.f.size
      have f1s : w.heap.size ≤ w1.heap.size := s1.f.size
      refine ⟨μ4, F4, k1.keepLv (by rw [hsz]; exact Nat.le_refl _) kf4 (fun b hb => kc b fun e => nL4 (e ▸ hb)), (s3.g.mono (fun _ _ => rfl) k3).mono kf4 (fun _ h => h), ?_⟩
      refine ⟨s3.f.os.trans (o2.1.trans s1.f.os), s3.f.tape.trans (o2.2.1.trans s1.f.tape), s3.f.output.trans (o2.2.2.trans s1.f.output), by rw [hsz]; omega, fun b hb hlv => ?_, fun q m h0 h => k6 _ _ h0 (s3.f.mu _ _ h0 (s1.f.mu _ _ h0 h)), fun b hb => k3 b (s3.f.fr b (s1.f.fr b hb)), fun b hb => ?_, fun b hb => ?_⟩
      · by_cases e : b = l
        · subst e; rw [World.putObj_heap_same l3w, lw]
        · have n1 : ¬ Lv μ1 H1 b := fun h => (s1.f.lv b h).elim (fun h => by have : w.heap.size ≤ b := h; omega) hlv
          rw [kc b e, s3.f.keep b (by show b < W2.heap.size; omega) n1, kb b e]
          exact s1.f.keep b hb hlv
      · have lvb : Lv μ3 H3 b ∨ Lv μ1 H1 b ∨ W2.heap.size ≤ b ∨ F1 b → F b ∨ w.heap.size ≤ b ∨ Lv μ (ofH L) b := by
          have q1 : Lv μ1 H1 b → F b ∨ w.heap.size ≤ b ∨ Lv μ (ofH L) b := fun h => (s1.f.lv b h).elim (fun h => .inr (.inl h)) fun h => .inr (.inr h)
          rintro (h | h | h | h)
          · exact (s3.f.lv b h).elim (fun h => .inr (.inl (by have : W2.heap.size ≤ b := h; omega))) q1
          · exact q1 h
          · exact .inr (.inl (by omega))
          · exact s1.f.fr' b h
        rcases k4 b hb with h | h
        · rcases s3.f.fr' b h with h | h | h
          · exact lvb (.inr (.inr (.inr h)))
          · exact lvb (.inr (.inr (.inl h)))
          · exact lvb (.inr (.inl h))
        · exact lvb (.inl h)
      · rcases s3.f.lv b (k5 b hb) with h | h
        · exact .inl (by have : W2.heap.size ≤ b := h; omega)
        · exact s1.f.lv b h
    | exit => exact hk3.elim
    | goto => exact hk3.elim
    | ret => exact hk3.elim
    | panic => exact hk3.elim
  | exit => exact hk.elim
  | goto => exact hk.elim
  | ret => exact hk.elim
  | panic => exact hk.elim
/-- A range over a function, all of whose rounds go on. -/
theorem RfP.of (ok : CxOK cx) {gop : Operand} {ps : Array Tmp} {assign body : Code} {T : TT} {H : HH} {Q : AX → TT → HH → Prop} {gf : FuncId} {cap cap0 : List AV} {xs : List (List AV)} (g : Nat) (TL : List (Nat × AV)) (HG : Nat → List (Id × Row))
    (hcf : ∀ (vs : Array Value) (w : World), (callFunc gf vs).run cx.P w = .ok (.enter gf vs) w) (hi : ISpec cx gf cap0 xs)
    (hs : Sub T H (ofL TL) (ofH (HG 0))) (hev : ev cx (ofL TL) gop = some (.clo (.func gf) [] cap)) (hcap : EntSL cap cap0)
    (hg0 : ∀ t av, ofL TL t = some av → gen0 av = true) (hps : ∀ p, p ∈ ps.toList → p < nt) (hx : ∀ x, x ∈ xs → x.length = ps.size) (hda : noDf assign = true) (hdb : noDf body = true)
    (hw : ∀ j x, xs[j]? = some x → WC cx nt g (.seq assign body) (parT ps.toList x (ofL TL)) (ofH (HG j)) (fun e _ H' => match e with | .normal => Sub TT.emp H' TT.emp (ofH (HG (j + 1))) | _ => False))
    (hQ : Q .normal (ofL TL) (ofH (HG xs.length))) : RfP cx nt (.rangeFunc gop ps assign body) T H Q := by
  refine ⟨fun E a w μ F hcol s0 => ?_⟩
  obtain ⟨μ, F, s⟩ := s0.sub hs
  refine (wpIn_wide (n := 1)).1 (wpIn_rangeFunc fun fn _ => ?_)
  have hclo := s.t
  have hv : Rep w μ F (.clo (.func gf) [] cap) (a.eval gop) := ev_sound s.g s.t hev
  obtain ⟨caps, hval, hcaps⟩ : ∃ caps : List Value, a.eval gop = .func (.func gf) #[] ⟨caps⟩ ∧ All2 (Rep w μ F) cap caps := by
    generalize a.eval gop = v at hv
    cases hv with
    | frz h =>
      cases h with
      | clo h1 h2 h3 h4 =>
        rename_i fs cs
        have : fs = [] := by cases fs <;> simp_all
        subst this
        exact ⟨cs, rfl, .of_get h2 fun i hi hi' => .frz (h4 i hi hi')⟩
    | clo h1 h2 h3 h4 =>
      rename_i fs cs
      have : fs = [] := by cases fs <;> simp_all
      subst this
      exact ⟨cs, rfl, .of_get h2 fun i hi hi' => h4 i hi hi'⟩
  have hcaps0 : All2 (RepF w F) cap0 caps := entSL_reps hcap hcaps
  obtain ⟨rec0, hrec⟩ : ∃ rec0 : Loop, rec0 = { state := .ready, pending := none, fn, tmps := a.tmps, params := ps, assign, body, defers := w.heap.size } := ⟨_, rfl⟩
  have q1 : rec0.state = .ready ∧ rec0.pending = none ∧ rec0.tmps = a.tmps ∧ rec0.params = ps ∧ rec0.assign = assign ∧ rec0.body = body := by rw [hrec]; exact ⟨rfl, rfl, rfl, rfl, rfl, rfl⟩
  obtain ⟨q1, q2, q3, q4, q5, q6⟩ := q1
  generalize hW1 : (w.alloc (.deferred (some []))).alloc (.loop rec0) = W1
  have sz1 : W1.heap.size = w.heap.size + 2 := by rw [← hW1]; simp only [World.alloc, Array.size_push]
  have kb : ∀ b, b < w.heap.size → W1.heap[b]? = w.heap[b]? := fun b hb => by
    rw [← hW1]; simp only [World.alloc]
    rw [heap_push_old' _ _ (by rw [Array.size_push]; omega), heap_push_old' _ _ hb]
  have hD : W1.heap[w.heap.size]? = some (.deferred (some [])) := by
    rw [← hW1]; simp only [World.alloc]
    rw [heap_push_old' _ _ (by rw [Array.size_push]; omega)]; exact heap_push_new' _ _
  have hL : W1.heap[w.heap.size + 1]? = some (.loop rec0) := by
    rw [← hW1]; simp only [World.alloc]
    have := heap_push_new' (w.heap.push (.deferred (some []))) (.loop rec0)
    rwa [Array.size_push] at this
  have o1 : W1.os = w.os ∧ W1.tape = w.tape ∧ W1.output = w.output := by rw [← hW1]; exact ⟨rfl, rfl, rfl⟩
  have kf : ∀ b, F b → W1.heap[b]? = w.heap[b]? := fun b hb => kb b (s.h.lt b hb)
  have h1 : HRep W1 μ F (ofH (HG 0)) := s.h.same (by omega) kb
  have nF : ∀ b, w.heap.size ≤ b → ¬ F b := fun b hb h => by have := s.h.lt b h; omega
  have nL : ∀ b, w.heap.size ≤ b → ¬ Lv μ (ofH (HG 0)) b := fun b hb h => by have := s.h.row_lt h; omega
  refine ⟨w.heap.size + 1, [colD w.heap.size], W1, { target := .fn (.func gf) ⟨caps⟩, args := #[.func (.yield (w.heap.size + 1)) #[] #[]] }, W1, gf, #[.func (.yield (w.heap.size + 1)) #[] #[]] ++ ⟨caps⟩, W1, ?_, ?_, fun _ _ => trivial, ?_, fun h => by simp [Fence.wide] at h, ?_⟩
  · rw [← hW1, hrec]; exact run_enterLoop_outer _ _ _ _ _
  · simp only [resolve, hval]
    simp [go_sem]
  · simp [invoke, go_sem, hcf]
  · refine (hi (w.heap.size + 1) rec0 HG W1 μ F caps _ h1 (s.g.mono kf fun _ h => h) (hcaps0.imp fun _ _ h => h.mono kf fun _ h => h) hL (fun x hx' => by rw [q4]; exact hx x hx') (fun j x hj => ?_)).mono ?_
    · exact round_ok ok TL h1 hL q1 q2 (nF _ (by omega)) (nL _ (by omega)) (fun t av ht => by rw [q3]; exact (s.t t av ht).mono kf (fun _ h => h) fun _ _ h => h) s.b hg0 (by rw [q3]; exact s.n) (by rw [q4]; exact hps) (by rw [q4]; exact hx x (List.mem_of_getElem? hj)) (by rw [q5]; exact hda) (by rw [q6]; exact hdb) (by rw [q4, q5, q6]; exact hw j x hj)
    · rintro e w5 ⟨⟨v, rfl⟩, μ5, F5, h5, g5, f5⟩
      have e5 : w5.heap[w.heap.size + 1]? = some (.loop rec0) := (f5.keep _ (by omega) (nL _ (by omega))).trans hL
      have d5 : w5.heap[w.heap.size]? = some (.deferred (some [])) := (f5.keep _ (by omega) (nL _ (by omega))).trans hD
      refine ⟨none, _, by rw [← q2]; exact run_endLoop e5 (by rw [q1]; simp), ?_⟩
      generalize hW6 : w5.putObj (w.heap.size + 1) (.loop { rec0 with state := .exhausted }) = W6
      have k6 : ∀ b, b ≠ w.heap.size + 1 → W6.heap[b]? = w5.heap[b]? := fun b hb => by rw [← hW6]; exact World.putObj_heap_other hb
      have sz6 : W6.heap.size = w5.heap.size := by rw [← hW6]; simp
      have o6 : W6.os = w5.os ∧ W6.tape = w5.tape ∧ W6.output = w5.output := by rw [← hW6]; exact ⟨rfl, rfl, rfl⟩
      have nF5 : ∀ b, w.heap.size ≤ b → b < W1.heap.size → ¬ F5 b := fun b hb hb' h => (f5.fr' b h).elim (nF b hb) fun h => h.elim (fun h => by omega) (nL b hb)
      have nL5 : ∀ b, w.heap.size ≤ b → b < W1.heap.size → ¬ Lv μ5 (ofH (HG xs.length)) b := fun b hb hb' h => (f5.lv b h).elim (fun h => by omega) (nL b hb)
      have kf6 : ∀ b, F5 b → W6.heap[b]? = w5.heap[b]? := fun b hb => k6 b fun e => nF5 b (by omega) (by omega) hb
      have s5 : W1.heap.size ≤ w5.heap.size := f5.size
      have f06 : FrB w μ F (ofH (HG 0)) W6 μ5 F5 (ofH (HG xs.length)) := by
        refine ⟨o6.1.trans (f5.os.trans o1.1), o6.2.1.trans (f5.tape.trans o1.2.1), o6.2.2.trans (f5.output.trans o1.2.2), by omega, fun b hb hlv => ?_, f5.mu, f5.fr, fun b hb => (f5.fr' b hb).imp id fun h => h.imp (fun h => by omega) id, fun b hb => (f5.lv b hb).imp (fun h => by omega) id⟩
        rw [k6 b (by omega), f5.keep b (by omega) hlv, kb b hb]
      refine ⟨.normal, ofL TL, ofH (HG xs.length), μ5, F5, hQ, ⟨h5.keepLv (by omega) kf6 (fun b hb => k6 b fun e => nL5 b (by omega) (by omega) hb), g5.mono kf6 fun _ h => h, fun t av ht => (s.t t av ht).mono0 (fun b hb => f06.keepF s.h hb) f06.fr f06.mu (hg0 t av ht), s.b, s.n, ?_, s.f.trans f06⟩, .normal⟩
      have hE : E.w.heap.size ≤ w.heap.size := s.f.size
      refine ⟨fun e => (by rw [hcol] at e; cases e), ?_⟩
      obtain ⟨Ds, m1, m2, m3⟩ := s.d.m
      refine ⟨w.heap.size :: Ds, by show [colD w.heap.size] ++ a.defers = _; rw [m1]; rfl, List.nodup_cons.2 ⟨fun h => by have := (m3 _ h).2.1; omega, m2⟩, fun D hD' => ?_⟩
      rcases List.mem_cons.1 hD' with rfl | hD'
      · exact ⟨hE, by omega, nF5 _ (Nat.le_refl _) (by omega), nL5 _ (Nat.le_refl _) (by omega), (k6 _ (by omega)).trans d5⟩
      · obtain ⟨a1, a2, a3, a4, a5⟩ := m3 D hD'
        refine ⟨a1, by omega, fun h => (f06.fr' D h).elim a3 fun h => h.elim (fun h => by omega) a4, fun h => (f06.lv D h).elim (fun h => by omega) a4, (f06.keep D a2 a4).trans a5⟩
end
end Go.Eng
/- A region that calls yield. -/
namespace Go.Eng
theorem Marks.stepB {E : Entry} {ds w μ F H w' μ' F' H'} (m : Marks E ds w μ F H) (f : FrB w μ F H w' μ' F' H') : Marks E ds w' μ' F' H' := by
  refine ⟨m.e, ?_⟩
  obtain ⟨Ds, h1, h2, h3⟩ := m.m
  refine ⟨Ds, h1, h2, fun D hD => ?_⟩
  obtain ⟨a, b, c, d, e⟩ := h3 D hD
  exact ⟨a, Nat.lt_of_lt_of_le b f.size, fun h => (f.fr' D h).elim c fun h => h.elim (fun h => by omega) d, fun h => (f.lv D h).elim (fun h => by omega) d, (f.keep D b d).trans e⟩
section
variable {cx : Cx} {nt : Nat}
/-- A state of which less is said. -/
theorem SimX.less {E : Entry} {T T' : TT} {H : HH} {a : Act} {w : World} {μ : Id → Option Loc} {F : Nat → Prop} (s : SimX cx nt E T H a w μ F) (h : ∀ t av, T' t = some av → T t = some av) : SimX cx nt E T' H a w μ F :=
  ⟨s.h, s.g, fun t av ht => s.t t av (h t av ht), fun t av ht => s.b t av (h t av ht), s.n, s.d, s.f⟩
theorem W_soundPre (ok : CxOK cx) {E : Entry} {ro : Option Nat} {n : Nat} {g : Nat} {q : Nat → Bool} {ops : Array Oper} {K : TT → HH → Prop} {Q : Exit → Act → World → Prop} {rest : List Oper}
    (hn : ∀ T' H' a' w' μ' F', K T' H' → SimX cx nt E T' H' a' w' μ' F' → wpListIn (fen ro) n cx.P ops Q rest a' w') :
    ∀ (l : List Oper) (i : Nat) (T : TT) (H : HH), l.all (fun o => !opDf o.op) = true → W cx nt g q ops i l T H K (fun _ _ _ => False) → ∀ a w μ F, SimX cx nt E T H a w μ F → wpListIn (fen ro) n cx.P ops Q (l ++ rest) a w
  | [], i, T, H, _, hk, a, w, μ, F, s => hn _ _ _ _ _ _ hk s
  | o :: l, i, T, H, hd, hk, a, w, μ, F, s => by
    rw [W_cons] at hk
    simp only [List.all_cons, Bool.and_eq_true, Bool.not_eq_true'] at hd
    refine wpListIn_step fun Kk hKk => ?_
    have := W1_sound ok hk s (next := Kk) (Q := Q) (fun T' H' a' w' μ' F' k s' => hKk _ _ (W_soundPre ok hn l (i + 1) T' H' (by simpa using hd.2) k a' w' μ' F' s')) (fun v T' H' w' μ' F' x k s' r => k.elim)
    split at this
    · rename_i hw; rw [if_pos hw]; exact opIn_of_wp hd.1 this
    · rename_i hw; rw [if_neg hw]; exact ⟨fun _ _ => trivial, this⟩
theorem yield_op {n : Nat} {E : Entry} {o : Oper} {gop : Operand} {xs : Array Operand} {ats : Array TypeId} {d : Nat} {l : Nat} {r : Loop} {x : List AV} {L0 L L' : List (Id × Row)} {T : TT} (TL : List (Nat × AV))
    (ho : o.op = .call ⟨.value gop, xs, ats⟩) (hd : o.dst = some d) (hdn : d < nt) (hE : E.H = ofH L0) (hl : E.w.heap[l]? = some (.loop r)) (hlL : ¬ Lv E.μ (ofH L0) l)
    (hy : YSpec cx l r x E.w E.μ E.F L0 L L') (hx : x.length = r.params.size) {a : Act} {w : World} {μ : Id → Option Loc} {F : Nat → Prop} (s : SimX cx nt E T (ofH L) a w μ F)
    (hg : ev cx T gop = some (.clo (.yield l) [] [])) (hxs : evs cx T xs.toList fun l => EntSL l x) (hTL : ∀ t av, ofL TL t = some av → T t = some av) (hg0 : ∀ t av, ofL TL t = some av → gen0 av = true)
    {next : Act → World → Prop} {Q : Exit → Act → World → Prop} (hn : ∀ a' w' μ' F', SimX cx nt E ((ofL TL).put d (.bool true)) (ofH L') a' w' μ' F' → next a' w') : o.wpIn (fen none) n cx.P a w next Q := by
  obtain ⟨avs, h1, h2⟩ := evs_iff hxs
  have hv := evs_sound s.g s.t h2
  have hvF := entSL_reps h1 hv
  have hf := s.f
  rw [hE] at hf
  have lw : w.heap[l]? = some (.loop r) := (hf.keep l (Array.getElem?_eq_some_iff.1 hl).1 hlL).trans hl
  have hgv : a.eval gop = .func (.yield l) #[] #[] := by
    have hr := ev_sound s.g s.t hg
    generalize a.eval gop = v at hr
    cases hr with
    | frz h =>
      cases h with
      | clo h1 h2 _ _ =>
        have e1 := List.eq_nil_of_length_eq_zero h1.symm
        have e2 := List.eq_nil_of_length_eq_zero h2.symm
        subst e1; subst e2; rfl
    | clo h1 h2 _ _ =>
      have e1 := List.eq_nil_of_length_eq_zero h1.symm
      have e2 := List.eq_nil_of_length_eq_zero h2.symm
      subst e1; subst e2; rfl
  refine ⟨fun _ _ => trivial, ?_⟩
  have hrun : (o.semAt (fen none).round a.eval).run cx.P w = .ok (.round l r.fn ((r.params.zip ⟨xs.toList.map a.eval⟩).foldl (fun tmps (t, a) => tmps.setIfInBounds t a) r.tmps) r.assign r.body) w := by
    have hlen : (⟨xs.toList.map a.eval⟩ : Array Value).size = r.params.size := by
      rw [← hx, hvF.length]; rfl
    have e : xs.map a.eval = (⟨xs.toList.map a.eval⟩ : Array Value) := by
      apply Array.ext'
      simp
    show (execOp a.eval o).run cx.P w = _
    unfold execOp
    rw [ho]
    simp only [resolve, hgv, e]
    have hy := run_yield (P := cx.P) lw hlen
    simp only [Deferred.ofValue, Sem.run_bind, Sem.run_pure, Result.andThen_ok]
    simp only [invoke]
    simpa using hy
  rw [hrun]
  refine ⟨fun h => by simp [fen, Fence.wide] at h, (hy w μ F _ _ s.h s.g hf hvF).mono ?_⟩
  rintro e w' ⟨rfl, μ', F', k1, k2, k3⟩
  refine hn _ _ μ' F' ⟨k1, k2, fun t av ht => ?_, fun t av ht => ?_, by simp [Act.put, hd, s.n], ?_, s.f.trans k3⟩
  · rw [hd, put_getD a d _ (by rw [s.n]; exact hdn)]
    by_cases e : t = d
    · subst e
      rw [TT.put_same] at ht; cases ht
      rw [if_pos rfl]
      exact .frz (.lit (show Plain (.bool true) from trivial))
    · rw [TT.put_ne _ _ e] at ht
      rw [if_neg e]
      exact (s.t t av (hTL t av ht)).mono0 (fun b hb => k3.keepF s.h hb) k3.fr k3.mu (hg0 t av ht)
  · by_cases e : t = d
    · subst e; exact hdn
    · rw [TT.put_ne _ _ e] at ht
      exact s.b t av (hTL t av ht)
  · rw [hd]; exact s.d.stepB k3
/-- A plain region, one of whose operations calls yield. -/
theorem yield_region (ok : CxOK cx) {n : Nat} {E : Entry} {id : Nat} {ops : Array Oper} {pre post : List Oper} {o : Oper} {gop : Operand} {xs : Array Operand} {ats : Array TypeId} {d : Nat} {l : Nat} {r : Loop} {x : List AV} {L0 L L' : List (Id × Row)} {T : TT} {g : Nat} {Q : AX → TT → HH → Prop} (TL : List (Nat × AV))
    (hops : ops.toList = pre ++ o :: post) (hdf : pre.all (fun o => !opDf o.op) = true) (hdf2 : post.all (fun o => !opDf o.op) = true) (hgu : o.guard = none)
    (ho : o.op = .call ⟨.value gop, xs, ats⟩) (hd : o.dst = some d) (hdn : d < nt) (hE : E.H = ofH L0) (hl : E.w.heap[l]? = some (.loop r)) (hlL : ¬ Lv E.μ (ofH L0) l)
    (hy : YSpec cx l r x E.w E.μ E.F L0 L L') (hx : x.length = r.params.size) (hg0 : ∀ t av, ofL TL t = some av → gen0 av = true)
    (hpre : W cx nt g (fun _ => false) ops 0 pre T (ofH L) (fun T' H' => H' = ofH L ∧ ev cx T' gop = some (.clo (.yield l) [] []) ∧ evs cx T' xs.toList (fun l => EntSL l x) ∧ ∀ t av, ofL TL t = some av → T' t = some av) (fun _ _ _ => False))
    (hpost : W cx nt g (fun _ => false) ops 0 post ((ofL TL).put d (.bool true)) (ofH L') (fun T' H' => Q .normal T' H') (fun v T' H' => Q (.panic v) T' H'))
    {a : Act} {w : World} {μ : Id → Option Loc} {F : Nat → Prop} (s : SimX cx nt E T (ofH L) a w μ F) : (Code.region id ops false).wpIn (fen none) n cx.P (Lift cx nt E Q) a w := by
  refine wpIn_region_list ?_
  rw [hops]
  refine W_soundPre ok (fun T' H' a' w' μ' F' k s' => ?_) pre 0 T _ hdf hpre a w μ F s
  obtain ⟨rfl, k2, k3, k4⟩ := k
  refine wpListIn_step fun Kk hKk => ?_
  have hwant : Region.wanted o (yielded ops a'.tmps) = true := by unfold Region.wanted; rw [hgu]
  rw [if_pos hwant]
  refine yield_op TL ho hd hdn hE hl hlL hy hx s' k2 k3 k4 hg0 fun a2 w2 μ2 F2 s2 => hKk _ _ ?_
  exact W_soundIn ok (fun T' H' a' w' μ' F' k s' => ⟨_, _, _, _, _, k, s', .normal⟩) (fun v T' H' a' w' μ' F' x k s' r => ⟨_, _, _, _, _, k, s', .panic r⟩) post 0 _ _ hdf2 hpost _ _ _ _ s2
end
end Go.Eng
/- Frozen slices, element by element as others. -/
namespace Go.Eng
theorem call_ent {cx : Cx} {q : Bool} {f : FuncId} {args args0 : List AV} {H : HH} {v : AV} {K KP : AV → HH → Prop} (h : PSpec cx f args0 (.ret v)) (he : EntSL args args0) (hk : K v H) : CallW cx q f args H K KP := by
  cases q
  · exact call_pure h he hk
  · exact call_quiet h he hk
theorem EntSL.len : ∀ {l m : List AV}, EntSL l m → l.length = m.length
  | [], [], _ => rfl
  | [], _ :: _, h => h.elim
  | _ :: _, [], h => h.elim
  | _ :: _, _ :: _, h => congrArg (· + 1) (EntSL.len h.2)
theorem EntSL.get : ∀ {l m : List AV}, EntSL l m → ∀ (i : Nat) (h : i < l.length) (h' : i < m.length), EntS l[i] m[i]
  | _ :: _, _ :: _, h, 0, _, _ => h.1
  | _ :: _, _ :: _, h, i + 1, hi, hi' => EntSL.get h.2 i (Nat.lt_of_succ_lt_succ hi) (Nat.lt_of_succ_lt_succ hi')
theorem EntS.lz {a : AV} {d : Dat} (h : EntS a d.unf) : EntS a (.lz d) := fun w μ F v hv => .lz (h w μ F v hv)
theorem EntS.fsl {c : Option Nat} {sz bs n : Nat} {el el' : Nat → List AV} (h : ∀ i, i < n → EntSL (el i) (el' i)) : EntS (.fsl c sz bs n el) (.fsl none sz bs n el') := by
  intro w μ F v hv
  cases hv with
  | frz hv =>
    cases hv with
    | fsE _ => exact .fsE (fun _ h => by cases h)
    | fs vs h0 hb hc hn hR hl hc' hr =>
      refine .fs vs h0 hb (fun _ h => by cases h) hn hR (fun i hi => (EntSL.len (h i hi)).symm.trans (hl i hi)) hc' (fun i j hi hj => ?_)
      have hj' : j < (el i).length := by rw [EntSL.len (h i hi)]; exact hj
      exact EntSL.get (h i hi) j hj' hj w μ F _ (.frz (hr i j hi hj'))
theorem EntS.nil_gl {sz bs : Nat} {c : Option Nat} {el : Nat → List AV} : EntS (.fsl c sz bs 0 el) (.lz (.gl [])) := by
  intro w μ F v hv
  refine .lz ?_
  cases hv with
  | frz hv =>
    cases hv with
    | fsE _ => exact .fsE (fun _ h => by cases h)
    | fs vs h0 => omega
theorem EntS.nil_gd {sz bs : Nat} {c : Option Nat} {el : Nat → List AV} : EntS (.fsl c sz bs 0 el) (.lz (.gd [])) := by
  intro w μ F v hv
  refine .lz ?_
  cases hv with
  | frz hv =>
    cases hv with
    | fsE _ => exact .fsE (fun _ h => by cases h)
    | fs vs h0 => omega
/-- A value built with no list and no fields. -/
theorem EntSL.cells0 {k n : Int} {t : ByteArray} {sz bs sz' bs' : Nat} {c c' : Option Nat} {el el' : Nat → List AV} : EntSL [.int k, .int n, .str t, .fsl c sz bs 0 el, .fsl c' sz' bs' 0 el'] (GV.mk k n t [] []).cells :=
  ⟨EntS.same rfl, EntS.same rfl, EntS.same rfl, EntS.nil_gl, EntS.nil_gd, trivial⟩
end Go.Eng
/- A slice held against nil: of a frozen one nobody knows. -/
namespace Go.Eng
theorem lz_slice {w : World} {μ : Id → Option Loc} {F : Nat → Prop} {d : Dat} {v : Value} (h : Rep w μ F (.lz d) v) : ∃ a n k, v = .slice a n k ∧ (a = none → ∀ c sz bs m el, d.unf = .fsl c sz bs m el → m = 0) := by
  have h := Rep_lz h
  have key : ∀ {x : AV} {v : Value}, RepF w F x v → x = d.unf → ∃ a n k, v = .slice a n k ∧ (a = none → ∀ c sz bs m el, d.unf = .fsl c sz bs m el → m = 0) := by
    intro x v h e
    cases h with
    | fsE _ => exact ⟨_, _, _, rfl, fun _ c sz bs m el he => by rw [he] at e; cases e; rfl⟩
    | fs vs h0 => exact ⟨_, _, _, rfl, fun ha => by cases ha⟩
    | lit _ => cases d <;> cases e
    | top _ => cases d <;> cases e
    | fp => cases d <;> cases e
    | clo => cases d <;> cases e
    | ifc => cases d <;> cases e
    | agg => cases d <;> cases e
    | tup => cases d <;> cases e
    | lz => cases d <;> cases e
  exact key h rfl
theorem nil_region {cx : Cx} {nt : Nat} {id : Nat} {ops : Array Oper} {o1 o2 : Oper} {x : Operand} {t e ty : TypeId} {d1 d2 : Nat} {T : TT} {H : HH} {Q : AX → TT → HH → Prop} {d : Dat} (hops : ops.toList = [o1, o2])
    (a1 : o1.op = .move x) (b1 : o1.dst = some d1) (c1 : o1.guard = none) (a2 : o2.op = .binOp .eql t (.tmp d1) (.const (.slice none 0 0)) ty) (b2 : o2.dst = some d2) (c2 : o2.guard = none) (hu : cx.P.underlying t = some (.slice e)) (h1 : d1 < nt) (h2 : d2 < nt)
    (hx : ev cx T x = some (.lz d)) (hk : ∀ b, (b = true → ∀ c sz bs m el, d.unf = .fsl c sz bs m el → m = 0) → Q .normal ((T.put d1 (.lz d)).put d2 (.bool b)) H) : RawP cx nt (.region id ops false) T H Q := by
  refine ⟨fun ro n E a w μ F s => wpIn_region_list ?_⟩
  rw [hops]
  refine wpListIn_step fun K1 hK1 => ?_
  rw [if_pos (by unfold Region.wanted; rw [c1])]
  have hv := ev_sound s.g s.t hx
  obtain ⟨aa, n', k', hval, hz⟩ := lz_slice hv
  have s1 := s.put h1 hv s.h s.g (.refl ..)
  refine ⟨fun _ _ => trivial, ?_⟩
  have e1 : (o1.semAt (fen ro).round a.eval).run cx.P w = .ok (.value (a.eval x)) w := by
    rw [Oper.semAt_eq _ _ _ (fun c hc => by rw [a1] at hc; cases hc)]
    unfold execOp; rw [a1]; rfl
  rw [e1, Oper.uponIn_value, b1]
  refine hK1 _ _ (wpListIn_step fun K2 hK2 => ?_)
  rw [if_pos (by unfold Region.wanted; rw [c2])]
  refine ⟨fun _ _ => trivial, ?_⟩
  have hg : (a.put (some d1) (a.eval x)).eval (.tmp d1) = .slice aa n' k' := by
    show (a.put (some d1) (a.eval x)).tmps.getD d1 undef = _
    rw [put_getD a d1 _ (by rw [s.n]; exact h1), if_pos rfl, hval]
  have e2 : (o2.semAt (fen ro).round (a.put (some d1) (a.eval x)).eval).run cx.P w = .ok (.value (.bool aa.isNone)) w := by
    rw [Oper.semAt_eq _ _ _ (fun c hc => by rw [a2] at hc; cases hc)]
    unfold execOp; rw [a2]
    simp only [hg]
    have hc : (a.put (some d1) (a.eval x)).eval (.const (.slice none 0 0)) = .slice none 0 0 := rfl
    rw [hc]
    have := run_equalIn_slice_nil (P := cx.P) w 9999 t e aa n' k' hu
    simp [eqGuard, binOp, Sem.run_bind, equal_eq, this]
  rw [e2, Oper.uponIn_value, b2]
  refine hK2 _ _ ?_
  have s2 := s1.put (d := d2) (av := .bool aa.isNone) (v := .bool aa.isNone) h2 (.frz (.lit (show Plain (.bool _) from trivial))) s1.h s1.g (.refl ..)
  refine ⟨_, _, _, _, _, hk aa.isNone (fun hb => hz (by cases aa <;> simp_all)), s2, .normal⟩
end Go.Eng
/- Arithmetic of machine words. -/
namespace Go.Eng
set_option linter.unusedSimpArgs false

def xorW (a b : Int) : Int := IntKind.i64.wrap ((BitVec.ofInt 64 a ^^^ BitVec.ofInt 64 b).toNat : Nat)
def andW (a b : Int) : Int := IntKind.i64.wrap ((BitVec.ofInt 64 a &&& BitVec.ofInt 64 b).toNat : Nat)
theorem wrap_eq (n : Int) : IntKind.i64.wrap n = if n % 18446744073709551616 ≥ 9223372036854775808 then n % 18446744073709551616 - 18446744073709551616 else n % 18446744073709551616 := by
  simp only [IntKind.wrap, IntKind.signed, IntKind.bits]
  simp
theorem wrap_msb (x : BitVec 64) : IntKind.i64.wrap (x.toNat : Nat) < 0 ↔ x.msb = true := by
  rw [wrap_eq, BitVec.msb_eq_decide]
  have := x.isLt
  simp only [decide_eq_true_eq]
  split <;> omega
theorem ofInt_wrap (x : BitVec 64) : BitVec.ofInt 64 (IntKind.i64.wrap (x.toNat : Nat)) = x := by
  rw [wrap_eq]
  apply BitVec.eq_of_toNat_eq
  have := x.isLt
  rw [BitVec.toNat_ofInt]
  split <;> omega
theorem ofInt_msb {a : Int} (h1 : -9223372036854775808 ≤ a) (h2 : a < 9223372036854775808) : (BitVec.ofInt 64 a).msb = decide (a < 0) := by
  rw [BitVec.msb_eq_decide, Bool.eq_iff_iff]
  simp only [decide_eq_true_eq, BitVec.toNat_ofInt]
  omega
theorem wrap_lo (n : Int) : -9223372036854775808 ≤ IntKind.i64.wrap n ∧ IntKind.i64.wrap n < 9223372036854775808 := by
  rw [wrap_eq]; split <;> omega
/-- Two exclusive ors, and the and of them: is it negative? -/
theorem and_xor {a b c d : Int} (ha : -9223372036854775808 ≤ a ∧ a < 9223372036854775808) (hb : -9223372036854775808 ≤ b ∧ b < 9223372036854775808) (hc : -9223372036854775808 ≤ c ∧ c < 9223372036854775808) (hd : -9223372036854775808 ≤ d ∧ d < 9223372036854775808) :
    decide (andW (xorW a b) (xorW c d) < 0) = ((decide (a < 0) ^^ decide (b < 0)) && (decide (c < 0) ^^ decide (d < 0))) := by
  have h : (andW (xorW a b) (xorW c d) < 0) ↔ ((BitVec.ofInt 64 a ^^^ BitVec.ofInt 64 b) &&& (BitVec.ofInt 64 c ^^^ BitVec.ofInt 64 d)).msb = true := by
    unfold andW xorW
    rw [ofInt_wrap, ofInt_wrap, wrap_msb]
  rw [Bool.eq_iff_iff, decide_eq_true_eq, h, BitVec.msb_and, BitVec.msb_xor, BitVec.msb_xor, ofInt_msb ha.1 ha.2, ofInt_msb hb.1 hb.2, ofInt_msb hc.1 hc.2, ofInt_msb hd.1 hd.2]
/-- A sum that does not fit. -/
theorem plus_over {a b : Int} (ha : -9223372036854775808 ≤ a ∧ a ≤ 9223372036854775807) (hb : -9223372036854775808 ≤ b ∧ b ≤ 9223372036854775807) :
    decide (andW (xorW a (IntKind.i64.wrap (a + b))) (xorW b (IntKind.i64.wrap (a + b))) < 0) = !(decide (-9223372036854775808 ≤ a + b) && decide (a + b ≤ 9223372036854775807)) := by
  have hs := wrap_lo (a + b)
  rw [and_xor (by omega) hs (by omega) hs]
  have he := wrap_eq (a + b)
  generalize IntKind.i64.wrap (a + b) = s at *
  by_cases h1 : a < 0 <;> by_cases h2 : b < 0 <;> by_cases h3 : s < 0 <;> simp only [h1, h2, h3, decide_true, decide_false, Bool.xor_true, Bool.xor_false, Bool.not_true, Bool.not_false, Bool.and_true, Bool.and_false, Bool.true_and, Bool.false_and] <;> (rw [Bool.eq_iff_iff]; simp only [Bool.not_eq_true', Bool.and_eq_false_iff, decide_eq_false_iff_not, Bool.true_eq, Bool.false_eq_true, true_iff, false_iff, reduceCtorEq]) <;> split at he <;> omega
theorem minus_over {a b : Int} (ha : -9223372036854775808 ≤ a ∧ a ≤ 9223372036854775807) (hb : -9223372036854775808 ≤ b ∧ b ≤ 9223372036854775807) :
    decide (andW (xorW a b) (xorW a (IntKind.i64.wrap (a - b))) < 0) = !(decide (-9223372036854775808 ≤ a - b) && decide (a - b ≤ 9223372036854775807)) := by
  have hs := wrap_lo (a - b)
  rw [and_xor (by omega) (by omega) (by omega) hs]
  have he := wrap_eq (a - b)
  generalize IntKind.i64.wrap (a - b) = s at *
  by_cases h1 : a < 0 <;> by_cases h2 : b < 0 <;> by_cases h3 : s < 0 <;> simp only [h1, h2, h3, decide_true, decide_false, Bool.xor_true, Bool.xor_false, Bool.not_true, Bool.not_false, Bool.and_true, Bool.and_false, Bool.true_and, Bool.false_and] <;> (rw [Bool.eq_iff_iff]; simp only [Bool.not_eq_true', Bool.and_eq_false_iff, decide_eq_false_iff_not, Bool.true_eq, Bool.false_eq_true, true_iff, false_iff, reduceCtorEq]) <;> split at he <;> omega
/-- A product that does not fit. -/
theorem mul_sign {a b : Int} : (decide (a < 0) != decide (b < 0)) = true → a * b = -((a.natAbs * b.natAbs : Nat) : Int) := by
  intro h
  rw [← Int.natAbs_mul]
  have : a * b ≤ 0 := by
    by_cases h1 : a < 0 <;> by_cases h2 : b < 0 <;> simp [h1, h2] at h
    · exact Int.mul_nonpos_of_nonpos_of_nonneg (by omega) (by omega)
    · exact Int.mul_nonpos_of_nonneg_of_nonpos (by omega) (by omega)
  omega
theorem mul_sign2 {a b : Int} : (decide (a < 0) != decide (b < 0)) = false → a * b = ((a.natAbs * b.natAbs : Nat) : Int) := by
  intro h
  rw [← Int.natAbs_mul]
  have : 0 ≤ a * b := by
    by_cases h1 : a < 0 <;> by_cases h2 : b < 0 <;> simp [h1, h2] at h
    · exact Int.mul_nonneg_of_nonpos_of_nonpos (by omega) (by omega)
    · exact Int.mul_nonneg (by omega) (by omega)
  omega
end Go.Eng

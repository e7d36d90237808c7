/- Part 9 of the proof of 'ExprSums': an engine for the program's code, and walks of its functions (AK AL AM Ar). -/
import Derived.Test.YtlcepambcoobgaaGreatDoorPart08
import Derived.Below
/- Calls of functions that are handed rows: put together. -/
namespace Go.Eng
section
variable {cx : Cx} {f : FuncId} {args args0 : List AV} {H : HH} {L : List (Id × Row)} {ι : Type} {O : ι → Out} {L' : ι → List (Id × Row)}
/-- What is to be looked at ahead of the call. -/
def viewK (ρ : List (Id × Src)) (H : HH) (args args0 : List AV) (L : List (Id × Row)) : Prop :=
  match keysIn L ρ, olds ρ, allOld ρ with
  | true, true, true => leK.leL nofz ρ H args args0 ∧ rowsK nofz ρ H L
  | _, _, _ => False
theorem allOld_look : ∀ {ρ : List (Id × Src)}, allOld ρ = true → ∀ k s, look ρ k = some s → ∃ e q, s = .old e q ∧ k.1 = 0
  | [], _, k, s, h => by cases h
  | (j, .new _ _) :: l, h, k, s, hk => by cases h
  | (j, .old e q) :: l, h, k, s, hk => by
    simp only [allOld, Bool.and_eq_true] at h
    unfold look at hk
    split at hk
    · rename_i hi
      cases hk
      rw [(ideq_iff _ _).1 hi]
      exact ⟨e, q, rfl, Nat.eq_of_beq_eq_true h.1⟩
    · exact allOld_look h.2 k s hk
theorem newOk_mem {ρ : List (Id × Src)} {g d : Nat} : ∀ {l : List (Id × Row)}, newOk ρ H g d l → ∀ k v, (k, v) ∈ l → (∃ s, look ρ k = some s) ∨ (look ρ k = none ∧ k.1 = 1 ∧ k.2.2 = 0 ∧ H (g, d, k.2.1 + 1) = none)
  | [], _, k, v, h => by cases h
  | (j, u) :: l, h, k, v, hm => by
    obtain ⟨h1, h2⟩ := h
    rcases List.mem_cons.1 hm with e | hm
    · cases e
      split at h1
      · exact .inl ⟨_, ‹_›⟩
      · rename_i hl
        split at h1
        · rename_i c1 c2 c3
          exact .inr ⟨hl, Nat.eq_of_beq_eq_true c1, Nat.eq_of_beq_eq_true c2, c3⟩
        · exact h1.elim
    · exact newOk_mem h2 k v hm
theorem call_m {ρ : List (Id × Src)} {g d : Nat} (hs : MSpec cx f args0 L O L') (hv : viewK ρ H args args0 L) (hn : ∀ x, newOk ρ H g d (L' x)) :
    HSpec cx f args H fun o H' => ∃ x, o = renOut (backM ρ g d) (O x) ∧ H' = updH (backM ρ g d) H (L' x) := by
  intro w μ F vs hH hG ha
  unfold viewK at hv
  split at hv
  rotate_left
  · exact hv.elim
  rename_i c1 c2 c3
  obtain ⟨hargs, hrows⟩ := hv
  have oldOf : ∀ {k s}, look ρ k = some s → ∃ e q, s = .old e q ∧ k.1 = 0 := fun h => allOld_look c3 _ _ h
  -- the callee's view
  have mlook : ∀ {k l}, muOf ρ μ k = some l → ∃ e q, look ρ k = some (.old e q) ∧ k.1 = 0 ∧ μ q = some l := by
    intro k l h
    unfold muOf at h
    split at h
    · rename_i e q hq
      obtain ⟨_, _, _, h0⟩ := oldOf hq
      exact ⟨e, q, hq, h0, h⟩
    · rename_i hq
      obtain ⟨_, _, h', _⟩ := oldOf hq
      cases h'
    · cases h
  have rowL : ∀ {k b}, ofH L k = some b → ∃ e q a, look ρ k = some (.old e q) ∧ H q = some a ∧ rowLe nofz ρ H e a b := by
    intro k b h
    rcases rowsK_ok hrows k b h with h | ⟨sz, bs, h1, _⟩
    · exact h
    · obtain ⟨_, _, h', _⟩ := oldOf h1
      cases h'
  have hfr : frOf nofz μ F H = F := frOf_no
  have old : ∀ {k b l bb}, ofH L k = some b → b.live = true → muOf ρ μ k = some l → l.b = some bb → ∃ e q a, look ρ k = some (.old e q) ∧ μ q = some l ∧ H q = some a ∧ a.live = true := by
    intro k b l bb h1 h2 h3 h4
    obtain ⟨e, q, h5, _, h6⟩ := mlook h3
    obtain ⟨e', q', a, k1, k2, k3⟩ := rowL h1
    rw [h5] at k1
    cases k1
    exact ⟨_, _, _, h5, h6, k2, rowLe_live k3 h2⟩
  have hH0 : HRep w (muOf ρ μ) F (ofH L) := by
    refine ⟨fun r b hb => ?_, fun r hn => ?_, fun r r' b b' l l' bb h1 h2 h3 h4 h5 h6 h7 h8 => ?_, fun r b l bb h1 h2 h3 h4 hF => ?_, hH.lt⟩
    · obtain ⟨e, q, a, k1, k2, k3⟩ := rowL hb
      obtain ⟨l, g1, g2⟩ := hH.rows q a k2
      have := rowLe_ok (μ := μ) hH k3 g2
      rw [hfr] at this
      exact ⟨l, by simp [muOf, k1, g1], this⟩
    · cases hm : muOf ρ μ r with
      | none => rfl
      | some l =>
        obtain ⟨e, q, h5, _⟩ := mlook hm
        obtain ⟨row, hrow⟩ := keysIn_ok c1 _ _ (look_mem h5)
        rw [hn] at hrow; cases hrow
    · obtain ⟨e, q, a, k1, k2, k3, k4⟩ := old h1 h2 h5 h7
      obtain ⟨e', q', a', k1', k2', k3', k4'⟩ := old h3 h4 h6 h8
      obtain rfl := hH.inj q q' a a' l l' bb k3 k4 k3' k4' k2 k2' h7 h8
      exact olds_inj c2 _ _ _ _ _ k1 k1'
    · obtain ⟨e, q, a, k1, k2, k3, k4⟩ := old h1 h2 h3 h4
      exact hH.disj q a l bb k3 k4 k2 h4 hF
  have ha0 : All2 (Rep w (muOf ρ μ) F) args0 vs := by
    obtain ⟨k1, k2⟩ := leL_get hargs
    refine .of_get (by rw [← k1, ha.length]) fun i hi hi' => ?_
    have := leK_ok (μ := μ) hH (ha.get i (by omega) hi') (k2 i (by omega) hi)
    rw [hfr] at this
    exact this
  have lv0 : ∀ {b}, Lv (muOf ρ μ) (ofH L) b → ∃ k e q a l, look ρ k = some (.old e q) ∧ muOf ρ μ k = some l ∧ μ q = some l ∧ H q = some a ∧ a.live = true ∧ l.b = some b := by
    rintro b ⟨k, row, l, h1, h2, h3, h4⟩
    obtain ⟨e, q, a, k1, k2, k3, k4⟩ := old h1 h2 h3 h4
    exact ⟨k, e, q, a, l, k1, h3, k2, k3, k4, h4⟩
  have lvH : ∀ {b}, Lv (muOf ρ μ) (ofH L) b → Lv μ H b := fun h => by
    obtain ⟨k, e, q, a, l, _, _, h2, h3, h4, h5⟩ := lv0 h
    exact ⟨q, a, l, h3, h4, h2, h5⟩
  have hc := hs w (muOf ρ μ) F vs hH0 hG ha0
  let m := backM ρ g d
  have fin : ∀ (e : Ending) (w' : World), (∃ x μ' F', EndR w' μ' F' (O x) e ∧ HRep w' μ' F' (ofH (L' x)) ∧ GOK cx w' F' ∧ FrB w (muOf ρ μ) F (ofH L) w' μ' F' (ofH (L' x))) →
      ∃ o H' μ' F', (∃ x, o = renOut (backM ρ g d) (O x) ∧ H' = updH (backM ρ g d) H (L' x)) ∧ EndR w' μ' F' o e ∧ HRep w' μ' F' H' ∧ GOK cx w' F' ∧ Fr w μ F H w' μ' F' H' := by
    rintro e w' ⟨x, μ', F', h1, h2, h3, h4⟩
    have mOld : ∀ {k e q}, look ρ k = some (.old e q) → m k = q := fun h => by simp [m, backM, h]
    have mNew : ∀ {k}, look ρ k = none → m k = (g, d, k.2.1 + 1) := fun h => by simp [m, backM, h]
    have hq : ∀ {k e q}, look ρ k = some (.old e q) → ∃ a, H q = some a := by
      intro k e q h
      obtain ⟨row, hrow⟩ := keysIn_ok c1 _ _ (look_mem h)
      obtain ⟨e', q', a, k1, k2, _⟩ := rowL hrow
      rw [h] at k1; cases k1
      exact ⟨a, k2⟩
    have inj : InjOn m (L' x) := by
      intro k k' v v' hk hk' hm
      rcases newOk_mem (hn x) k v hk with ⟨s, hs⟩ | ⟨n1, n2, n3, n4⟩
      · obtain ⟨e1, q1, rfl, _⟩ := oldOf hs
        rcases newOk_mem (hn x) k' v' hk' with ⟨s', hs'⟩ | ⟨n1', n2', n3', n4'⟩
        · obtain ⟨e2, q2, rfl, _⟩ := oldOf hs'
          rw [mOld hs, mOld hs'] at hm
          subst hm
          exact olds_inj c2 _ _ _ _ _ hs hs'
        · rw [mOld hs, mNew n1'] at hm
          obtain ⟨a, haq⟩ := hq hs
          rw [hm, n4'] at haq; cases haq
      · rcases newOk_mem (hn x) k' v' hk' with ⟨s', hs'⟩ | ⟨n1', n2', n3', n4'⟩
        · obtain ⟨e2, q2, rfl, _⟩ := oldOf hs'
          rw [mOld hs', mNew n1] at hm
          obtain ⟨a, haq⟩ := hq hs'
          rw [← hm, n4] at haq; cases haq
        · rw [mNew n1, mNew n1'] at hm
          have hm2 : k.2.1 + 1 = k'.2.1 + 1 := (Prod.mk.inj (Prod.mk.inj hm).2).2
          exact Prod.ext (by rw [n2, n2']) (Prod.ext (by omega) (by rw [n3, n3']))
    let μ1 := muBack m μ' μ (L' x)
    have hm1 : ∀ r l, μ' r = some l → μ1 (m r) = some l := by
      intro r l hr
      have hne : ofH (L' x) r ≠ none := fun h => by rw [h2.dom r h] at hr; cases hr
      cases hx : ofH (L' x) r with
      | none => exact absurd hx hne
      | some b =>
        obtain ⟨v', hmem⟩ := ofH_mem hx
        show muBack m μ' μ (L' x) (m r) = _
        rw [muBack_in inj r v' hmem]; exact hr
    have hcov : ∀ r, (∃ k b, ofH (L' x) k = some b ∧ m k = r) ∨ (∀ k v, (k, v) ∈ L' x → m k ≠ r) := by
      intro r
      by_cases hx : ∃ k v, (k, v) ∈ L' x ∧ m k = r
      · obtain ⟨k, v, hk, he⟩ := hx
        obtain ⟨v', h'⟩ := mem_ofH hk
        exact .inl ⟨k, v', h', he⟩
      · exact .inr fun k v hk he => hx ⟨k, v, hk, he⟩
    -- rows handed on have kept their names
    have keepQ : ∀ {k e q l}, look ρ k = some (.old e q) → μ q = some l → μ' k = some l := by
      intro k e q l hk hl
      obtain ⟨_, _, _, h0⟩ := oldOf hk
      exact h4.mu k l h0 (by simp [muOf, hk, hl])
    have hmu : ∀ r l, μ r = some l → μ1 r = some l := by
      intro r l hr
      rcases hcov r with ⟨k, b, hb, rfl⟩ | ho
      · obtain ⟨v', hmem⟩ := ofH_mem hb
        show muBack m μ' μ (L' x) (m k) = _
        rw [muBack_in inj k v' hmem]
        rcases newOk_mem (hn x) k v' hmem with ⟨s, hs⟩ | ⟨n1, n2, n3, n4⟩
        · obtain ⟨e1, q1, rfl, _⟩ := oldOf hs
          rw [mOld hs] at hr
          exact keepQ hs hr
        · rw [mNew n1, hH.dom _ n4] at hr; cases hr
      · show muBack m μ' μ (L' x) r = _
        rw [muBack_out ho]; exact hr
    -- a row of the caller's that is not handed on
    have other : ∀ {r row l b}, H r = some row → row.live = true → μ r = some l → l.b = some b → (∀ k v, (k, v) ∈ L' x → m k ≠ r) → ¬ Lv (muOf ρ μ) (ofH L) b := by
      intro r row l b hr hlv hl hb ho hL
      obtain ⟨k, e1, q, a, l', k1, k2, k3, k4, k5, k6⟩ := lv0 hL
      obtain rfl := hH.inj r q row a l l' b hr hlv k4 k5 hl k3 hb k6
      have hk' := keepQ k1 k3
      have hne : ofH (L' x) k ≠ none := fun h => by rw [h2.dom k h] at hk'; cases hk'
      cases hx : ofH (L' x) k with
      | none => exact absurd hx hne
      | some b' =>
        obtain ⟨v', hmem⟩ := ofH_mem hx
        exact ho k v' hmem (mOld k1)
    have row1 : ∀ {r b}, updH m H (L' x) r = some b → (∃ k b0, ofH (L' x) k = some b0 ∧ m k = r ∧ b = renRow m b0 ∧ μ1 r = μ' k) ∨ (H r = some b ∧ μ1 r = μ r ∧ ∀ k v, (k, v) ∈ L' x → m k ≠ r) := by
      intro r b hb
      rcases hcov r with ⟨k, b0, hk, rfl⟩ | ho
      · rw [updH_in inj k b0 hk] at hb
        cases hb
        obtain ⟨v', hmem⟩ := ofH_mem hk
        exact .inl ⟨k, b0, hk, rfl, rfl, muBack_in inj k v' hmem⟩
      · rw [updH_out ho] at hb
        exact .inr ⟨hb, muBack_out ho, ho⟩
    have blk : ∀ {r b l bb}, updH m H (L' x) r = some b → b.live = true → μ1 r = some l → l.b = some bb → (∃ k b0, ofH (L' x) k = some b0 ∧ b0.live = true ∧ m k = r ∧ μ' k = some l) ∨ (H r = some b ∧ μ r = some l ∧ bb < w.heap.size ∧ ¬ Lv (muOf ρ μ) (ofH L) bb) := by
      intro r b l bb hb hlv hl hbb
      rcases row1 hb with ⟨k, b0, k1, k2, rfl, k4⟩ | ⟨k1, k2, k3⟩
      · exact .inl ⟨k, b0, k1, by rw [← renRow_live (m := m)]; exact hlv, k2, by rw [← k4]; exact hl⟩
      · rw [k2] at hl
        exact .inr ⟨k1, hl, hH.row_lt ⟨r, b, l, k1, hlv, hl, hbb⟩, other k1 hlv hl hbb k3⟩
    have apart : ∀ {k b0 l bb}, ofH (L' x) k = some b0 → b0.live = true → μ' k = some l → l.b = some bb → bb < w.heap.size → ¬ Lv (muOf ρ μ) (ofH L) bb → False := by
      intro k b0 l bb h5 h6 h7 h8 h9 h10
      rcases h4.lv bb ⟨k, b0, l, h5, h6, h7, h8⟩ with h | h
      · omega
      · exact h10 h
    refine ⟨renOut m (O x), updH m H (L' x), μ1, F', ⟨x, rfl, rfl⟩, ?_, ⟨fun r b hb => ?_, fun r hnn => ?_, fun r r' b b' l l' bb e1 e2 e3 e4 e5 e6 e7 e8 => ?_, fun r b l bb e1 e2 e3 e4 hF => ?_, h2.lt⟩, h3, ⟨h4.os, h4.tape, h4.output, h4.size, fun b hb hlv => h4.keep b hb fun h => hlv (lvH h), hmu, h4.fr, fun b hb => ?_, fun b hb => ?_⟩⟩
    · generalize O x = oo at h1
      cases h1 with
      | ret hr => exact .ret (ren_rep hm1 hr)
      | pan hr => exact .pan (ren_rep hm1 hr)
    · rcases row1 hb with ⟨k, b0, k1, k2, rfl, k4⟩ | ⟨k1, k2, k3⟩
      · obtain ⟨l, hl, hrow⟩ := h2.rows k b0 k1
        exact ⟨l, by rw [k4]; exact hl, renRow_rep hm1 hrow⟩
      · obtain ⟨l, hl, hrow⟩ := hH.rows r b k1
        refine ⟨l, by rw [k2]; exact hl, hrow.mono (fun hlv bb hbb => ?_) (fun bb hF => ?_) h4.fr hmu⟩
        · exact h4.keep bb (hH.row_lt ⟨r, b, l, k1, hlv, hl, hbb⟩) (other k1 hlv hl hbb k3)
        · refine h4.keep bb (hH.lt bb hF) fun hL => ?_
          obtain ⟨k, e1, q, a, l', j1, j2, j3, j4, j5, j6⟩ := lv0 hL
          exact hH.disj q a l' bb j4 j5 j3 j6 hF
    · rcases hcov r with ⟨k, b0, hk, rfl⟩ | ho
      · rw [updH_in inj k b0 hk] at hnn; cases hnn
      · rw [updH_out ho] at hnn
        show muBack m μ' μ (L' x) r = none
        rw [muBack_out ho]; exact hH.dom r hnn
    · rcases blk e1 e2 e5 e7 with ⟨k, b0, k1, k2, k3, k4⟩ | ⟨k1, k2, k3, k4⟩
      · rcases blk e3 e4 e6 e8 with ⟨k', b0', k1', k2', k3', k4'⟩ | ⟨k1', k2', k3', k4'⟩
        · obtain rfl := h2.inj k k' b0 b0' l l' bb k1 k2 k1' k2' k4 k4' e7 e8
          rw [← k3, ← k3']
        · exact (apart k1 k2 k4 e7 k3' k4').elim
      · rcases blk e3 e4 e6 e8 with ⟨k', b0', k1', k2', k3', k4'⟩ | ⟨k1', k2', k3', k4'⟩
        · exact (apart k1' k2' k4' e8 k3 k4).elim
        · exact hH.inj r r' b b' l l' bb k1 e2 k1' e4 k2 k2' e7 e8
    · rcases blk e1 e2 e3 e4 with ⟨k, b0, k1, k2, k3, k4⟩ | ⟨k1, k2, k3, k4⟩
      · exact h2.disj k b0 l bb k1 k2 k4 e4 hF
      · rcases h4.fr' bb hF with h | h | h
        · exact hH.disj r b l bb k1 e2 k2 e4 h
        · omega
        · exact k4 h
    · exact (h4.fr' b hb).imp id fun h => h.imp id lvH
    · obtain ⟨r, row, l, e1, e2, e3, e5⟩ := hb
      rcases blk e1 e2 e3 e5 with ⟨k, b0, k1, k2, k3, k4⟩ | ⟨k1, k2, k3, k4⟩
      · exact (h4.lv b ⟨k, b0, l, k1, k2, k4, e5⟩).imp id lvH
      · exact .inr ⟨r, row, l, k1, e2, k2, e5⟩
  unfold CallsX at hc ⊢
  split at hc
  · exact hc.mono fun e w' h => fin e w' h
  · exact fin _ _ hc
  · exact hc.mono fun v w' h => fin _ _ h
  · exact fin _ _ hc
  · exact hc.elim
/-- A call of a function that is handed rows, in a walk. -/
theorem call_mm (ρ : List (Id × Src)) (g d : Nat) {K KP : AV → HH → Prop} (hs : MSpec cx f args0 L O L') (hv : viewK ρ H args args0 L) (hn : ∀ x, newOk ρ H g d (L' x))
    (hk : ∀ x, match renOut (backM ρ g d) (O x) with | .ret v => K v (updH (backM ρ g d) H (L' x)) | .pan v => KP v (updH (backM ρ g d) H (L' x))) : CallW cx false f args H K KP :=
  ⟨_, call_m hs hv hn, fun o H' ⟨x, ho, hH⟩ => by
    have := hk x
    rw [ho, hH]
    cases hx : renOut (backM ρ g d) (O x) with
    | ret v => rw [hx] at this; exact this
    | pan v => rw [hx] at this; exact this⟩
end
end Go.Eng
/- Laws of the library's shelf, as laws of functions that only compute. -/
namespace Go.Eng
open Go.RowKit
theorem FrF.of_below {w w' : World} {F : Nat → Prop} (hF : ∀ b, F b → b < w.heap.size) (h : Below w.heap.size w w') : FrF w F w' F :=
  ⟨h.os, h.tape, h.output, h.size, h.block, fun _ h => .inl h, fun b hb => Nat.lt_of_lt_of_le (hF b hb) h.size⟩
theorem FrF.refl {w : World} {F : Nat → Prop} (hF : ∀ b, F b → b < w.heap.size) : FrF w F w F := .of_below hF (.refl _ _)
theorem PSpec.of_calls {cx : Cx} {f : FuncId} {args : List AV} {o : Out} (hcall : ∀ (vs : Array Value) (w : World), (callFunc f vs).run cx.P w = .ok (.enter f vs) w)
    (h : ∀ w F vs, (∀ b, F b → b < w.heap.size) → GOK cx w F → All2 (RepF w F) args vs → Calls cx.P f ⟨vs⟩ w fun e w' => ∃ F', EndF w' F' o e ∧ FrF w F w' F') : PSpec cx f args o := by
  intro w F vs hF hG ha
  unfold CallsX
  rw [hcall]
  exact h w F vs hF hG ha
theorem All2F.one {w : World} {F : Nat → Prop} {a : AV} {vs : List Value} (h : All2 (RepF w F) [a] vs) : ∃ v, vs = [v] ∧ RepF w F a v := by
  cases h with
  | cons h h2 => cases h2; exact ⟨_, rfl, h⟩
theorem All2F.two {w : World} {F : Nat → Prop} {a b : AV} {vs : List Value} (h : All2 (RepF w F) [a, b] vs) : ∃ v u, vs = [v, u] ∧ RepF w F a v ∧ RepF w F b u := by
  cases h with
  | cons h h2 =>
    obtain ⟨u, rfl, hu⟩ := All2F.one h2
    exact ⟨_, _, rfl, h, hu⟩
/-- A function whose answer is a plain value. -/
theorem PSpec.of_plain {cx : Cx} {f : FuncId} {args : List AV} {v : Value} (hp : Plain v) (hcall : ∀ (vs : Array Value) (w : World), (callFunc f vs).run cx.P w = .ok (.enter f vs) w)
    (h : ∀ w F vs, GOK cx w F → All2 (RepF w F) args vs → Calls cx.P f ⟨vs⟩ w fun e w' => e = .returned v ∧ Below w.heap.size w w') : PSpec cx f args (.ret (.lit v)) :=
  .of_calls hcall fun w F vs hF hG ha => (h w F vs hG ha).mono fun e w' ⟨he, hb⟩ => ⟨F, by rw [he]; exact .ret (.lit hp), .of_below hF hb⟩
end Go.Eng
/- What names no row is as itself. -/
namespace Go.Eng
section
variable {fz : Id → Bool} {ρ : List (Id × Src)} {H : HH}
theorem litLe_refl (v : Value) : litLe v v := by
  cases v <;> simp [litLe]
theorem fslLe_refl (c : Option Nat) (sz bs n : Nat) (el : Nat → List AV) : fslLe c sz bs n el (.fsl c sz bs n el) := ⟨fun _ h => h, rfl, .inr ⟨rfl, rfl, fun _ _ => rfl⟩⟩
mutual
theorem leK_refl : ∀ v : AV, idf v = true → leK fz ρ H v v
  | .lit v, _ => by simp only [leK, leF]; exact litLe_refl v
  | .top, _ => by simp only [leK, leF]
  | .fsl c sz bs n el, _ => by simp only [leK, leF]; exact fslLe_refl c sz bs n el
  | .fptr sz n el i j, _ => by simp only [leK, leF]
  | .row .., h => by cases h
  | .ptr .., h => by cases h
  | .clo fn a b, h => by
    simp only [idf, Bool.and_eq_true] at h
    simp only [leK]
    exact ⟨trivial, leL_refl a h.1, leL_refl b h.2⟩
  | .ifc t v, h => by simp only [leK]; exact ⟨trivial, leK_refl v h⟩
  | .agg l, h => by simp only [leK]; exact leL_refl l h
  | .tup l, h => by simp only [leK]; exact leL_refl l h
  | .mref r, h => by cases h
  | .lz d, _ => by simp only [leK, leF]
theorem leL_refl : ∀ l : List AV, idf.idfL l = true → leK.leL fz ρ H l l
  | [], _ => by simp only [leK.leL]
  | a :: l, h => by
    simp only [idf.idfL, Bool.and_eq_true] at h
    simp only [leK.leL]
    exact ⟨leK_refl a h.1, leL_refl l h.2⟩
end
end
/-- A row of its own, seen as one that nobody writes: all of it. -/
theorem frz_all {α : Type} [Inhabited α] {f : α → List AV} (hf : ∀ a, idfL (f a) = true) (l : List α) : ∀ i, i < l.length → (l.map f).getD (0 + i) [] = f (l.getD i default) ∧ idfL (f (l.getD i default)) = true := by
  intro i hi
  refine ⟨?_, hf _⟩
  simp [List.getD_eq_getElem?_getD, hi]
theorem len_map {α β : Type} (f : α → β) (l : List α) : (0 + l.length).le (l.map f).length := by simp
theorem snoc_map {α β : Type} (f : α → β) (l : List α) (a : α) : (((l.map f).drop 0).take l.length) ++ [f a] = (l ++ [a]).map f := by
  rw [List.drop_zero, List.take_of_length_le (by simp), List.map_append]; rfl
theorem idfL_app : ∀ (l m : List AV), idfL (l ++ m) = (idfL l && idfL m)
  | [], m => rfl
  | a :: l, m => by
    show (idf a && idfL (l ++ m)) = ((idf a && idfL l) && idfL m)
    rw [idfL_app l m, Bool.and_assoc]
end Go.Eng
/- Arithmetic of machine words. -/
namespace Go.Eng
set_option linter.unusedSimpArgs false

def xorW (a b : Int) : Int := IntKind.i64.wrap ((BitVec.ofInt 64 a ^^^ BitVec.ofInt 64 b).toNat : Nat)
def andW (a b : Int) : Int := IntKind.i64.wrap ((BitVec.ofInt 64 a &&& BitVec.ofInt 64 b).toNat : Nat)
theorem wrap_eq (n : Int) : IntKind.i64.wrap n = if n % 18446744073709551616 ≥ 9223372036854775808 then n % 18446744073709551616 - 18446744073709551616 else n % 18446744073709551616 := by
  simp only [IntKind.wrap, IntKind.signed, IntKind.bits]
  simp
theorem wrap_msb (x : BitVec 64) : IntKind.i64.wrap (x.toNat : Nat) < 0 ↔ x.msb = true := by
  rw [wrap_eq, BitVec.msb_eq_decide]
  have := x.isLt
  simp only [decide_eq_true_eq]
  split <;> omega
theorem ofInt_wrap (x : BitVec 64) : BitVec.ofInt 64 (IntKind.i64.wrap (x.toNat : Nat)) = x := by
  rw [wrap_eq]
  apply BitVec.eq_of_toNat_eq
  have := x.isLt
  rw [BitVec.toNat_ofInt]
  split <;> omega
theorem ofInt_msb {a : Int} (h1 : -9223372036854775808 ≤ a) (h2 : a < 9223372036854775808) : (BitVec.ofInt 64 a).msb = decide (a < 0) := by
  rw [BitVec.msb_eq_decide, Bool.eq_iff_iff]
  simp only [decide_eq_true_eq, BitVec.toNat_ofInt]
  omega
theorem wrap_lo (n : Int) : -9223372036854775808 ≤ IntKind.i64.wrap n ∧ IntKind.i64.wrap n < 9223372036854775808 := by
  rw [wrap_eq]; split <;> omega
/-- Two exclusive ors, and the and of them: is it negative? -/
theorem and_xor {a b c d : Int} (ha : -9223372036854775808 ≤ a ∧ a < 9223372036854775808) (hb : -9223372036854775808 ≤ b ∧ b < 9223372036854775808) (hc : -9223372036854775808 ≤ c ∧ c < 9223372036854775808) (hd : -9223372036854775808 ≤ d ∧ d < 9223372036854775808) :
    decide (andW (xorW a b) (xorW c d) < 0) = ((decide (a < 0) ^^ decide (b < 0)) && (decide (c < 0) ^^ decide (d < 0))) := by
  have h : (andW (xorW a b) (xorW c d) < 0) ↔ ((BitVec.ofInt 64 a ^^^ BitVec.ofInt 64 b) &&& (BitVec.ofInt 64 c ^^^ BitVec.ofInt 64 d)).msb = true := by
    unfold andW xorW
    rw [ofInt_wrap, ofInt_wrap, wrap_msb]
  rw [Bool.eq_iff_iff, decide_eq_true_eq, h, BitVec.msb_and, BitVec.msb_xor, BitVec.msb_xor, ofInt_msb ha.1 ha.2, ofInt_msb hb.1 hb.2, ofInt_msb hc.1 hc.2, ofInt_msb hd.1 hd.2]
/-- A sum that does not fit. -/
theorem plus_over {a b : Int} (ha : -9223372036854775808 ≤ a ∧ a ≤ 9223372036854775807) (hb : -9223372036854775808 ≤ b ∧ b ≤ 9223372036854775807) :
    decide (andW (xorW a (IntKind.i64.wrap (a + b))) (xorW b (IntKind.i64.wrap (a + b))) < 0) = !(decide (-9223372036854775808 ≤ a + b) && decide (a + b ≤ 9223372036854775807)) := by
  have hs := wrap_lo (a + b)
  rw [and_xor (by omega) hs (by omega) hs]
  have he := wrap_eq (a + b)
  generalize IntKind.i64.wrap (a + b) = s at *
  by_cases h1 : a < 0 <;> by_cases h2 : b < 0 <;> by_cases h3 : s < 0 <;> simp only [h1, h2, h3, decide_true, decide_false, Bool.xor_true, Bool.xor_false, Bool.not_true, Bool.not_false, Bool.and_true, Bool.and_false, Bool.true_and, Bool.false_and] <;> (rw [Bool.eq_iff_iff]; simp only [Bool.not_eq_true', Bool.and_eq_false_iff, decide_eq_false_iff_not, Bool.true_eq, Bool.false_eq_true, true_iff, false_iff, reduceCtorEq]) <;> split at he <;> omega
theorem minus_over {a b : Int} (ha : -9223372036854775808 ≤ a ∧ a ≤ 9223372036854775807) (hb : -9223372036854775808 ≤ b ∧ b ≤ 9223372036854775807) :
    decide (andW (xorW a b) (xorW a (IntKind.i64.wrap (a - b))) < 0) = !(decide (-9223372036854775808 ≤ a - b) && decide (a - b ≤ 9223372036854775807)) := by
  have hs := wrap_lo (a - b)
  rw [and_xor (by omega) (by omega) (by omega) hs]
  have he := wrap_eq (a - b)
  generalize IntKind.i64.wrap (a - b) = s at *
  by_cases h1 : a < 0 <;> by_cases h2 : b < 0 <;> by_cases h3 : s < 0 <;> simp only [h1, h2, h3, decide_true, decide_false, Bool.xor_true, Bool.xor_false, Bool.not_true, Bool.not_false, Bool.and_true, Bool.and_false, Bool.true_and, Bool.false_and] <;> (rw [Bool.eq_iff_iff]; simp only [Bool.not_eq_true', Bool.and_eq_false_iff, decide_eq_false_iff_not, Bool.true_eq, Bool.false_eq_true, true_iff, false_iff, reduceCtorEq]) <;> split at he <;> omega
/-- A product that does not fit. -/
theorem mul_sign {a b : Int} : (decide (a < 0) != decide (b < 0)) = true → a * b = -((a.natAbs * b.natAbs : Nat) : Int) := by
  intro h
  rw [← Int.natAbs_mul]
  have : a * b ≤ 0 := by
    by_cases h1 : a < 0 <;> by_cases h2 : b < 0 <;> simp [h1, h2] at h
    · exact Int.mul_nonpos_of_nonpos_of_nonneg (by omega) (by omega)
    · exact Int.mul_nonpos_of_nonneg_of_nonpos (by omega) (by omega)
  omega
theorem mul_sign2 {a b : Int} : (decide (a < 0) != decide (b < 0)) = false → a * b = ((a.natAbs * b.natAbs : Nat) : Int) := by
  intro h
  rw [← Int.natAbs_mul]
  have : 0 ≤ a * b := by
    by_cases h1 : a < 0 <;> by_cases h2 : b < 0 <;> simp [h1, h2] at h
    · exact Int.mul_nonneg_of_nonpos_of_nonpos (by omega) (by omega)
    · exact Int.mul_nonneg (by omega) (by omega)
  omega
end Go.Eng

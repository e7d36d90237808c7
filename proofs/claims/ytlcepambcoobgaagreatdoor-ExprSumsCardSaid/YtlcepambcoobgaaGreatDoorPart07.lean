/- Part 7 of the proof of 'ExprSums': an engine for the program's code, and walks of its functions (Z AA AB). -/
import Derived.Test.YtlcepambcoobgaaGreatDoorPart06
/- Soundness: regions whose operations come in any order, put together. -/
namespace Go.Eng
section
variable {cx : Cx} {nt g : Nat} {ops : Array Oper} {q : Nat → Bool}
theorem W1_mono {quiet : Bool} {o : Oper} {T : TT} {H : HH} {K K' : TT → HH → Prop} {KP : AV → TT → HH → Prop} (hk : ∀ T H, K T H → K' T H) (h : W1 cx nt g quiet ops o T H K KP) : W1 cx nt g quiet ops o T H K' KP := by
  obtain ⟨dst, op, ty, pos, af, guard⟩ := o
  unfold W1 at *
  have hm : ∀ {id : Id} {f : AV → TT}, opK cx quiet id op T H (fun v H' => K (f v) H') (fun v H' => KP v T H') → opK cx quiet id op T H (fun v H' => K' (f v) H') (fun v H' => KP v T H') := fun h => opK_mono (fun _ _ h => hk _ _ h) (fun _ _ h => h) h
  cases guard with
  | none =>
    cases dst with
    | none => exact hm h
    | some d =>
      simp only at h ⊢
      generalize Nat.blt d nt = x at *
      cases x
      · exact h
      · exact hm h
  | some gw =>
    obtain ⟨j, want⟩ := gw
    simp only at h ⊢
    generalize ops[j]? = y at *
    cases y with
    | none => exact h
    | some p =>
      obtain ⟨pd, _, _, _, _, _⟩ := p
      cases pd with
      | none => exact h
      | some e =>
        simp only at h ⊢
        generalize T e = z at *
        split at h
        rotate_left
        · exact h.elim
        rename_i b _
        cases dst with
        | none =>
          simp only [BrW_eq, Br] at h ⊢
          generalize (b == want) = x at *
          cases x
          · exact hk _ _ h
          · exact hm h
        | some d =>
          simp only [BrW_eq, Br] at h ⊢
          generalize Nat.blt d nt = x at *
          cases x
          · exact h
          · simp only at h ⊢
            generalize (b == want) = x at *
            cases x
            · exact hk _ _ h
            · exact hm h
def Passes (cx : Cx) (q : Nat → Bool) (ops : Array Oper) (j i : Nat) : Prop :=
  ∃ a b, ops[j]? = some a ∧ ops[i]? = some b ∧ mayPass (clsO cx (q j) ops a) (clsO cx (q i) ops b) = true ∧ tmpMeet ops a b = false
theorem tmpMeet_spec {a b : Oper} (h : tmpMeet ops a b = false) : (∀ d, a.dst = some d → d ∉ namesOf ops b ∧ b.dst ≠ some d) ∧ (∀ d, b.dst = some d → d ∉ namesOf ops a) := by
  unfold tmpMeet at h
  rw [Bool.or_eq_false_iff] at h
  obtain ⟨h1, h2⟩ := h
  refine ⟨fun d hd => ?_, fun d hd => ?_⟩
  · rw [hd] at h1
    simp only [Bool.or_eq_false_iff] at h1
    refine ⟨fun h => by simp [h] at h1, fun h => by simp [h] at h1⟩
  · rw [hd] at h2
    simp only at h2
    exact fun h => by simp [h] at h2
theorem mayPass_spec {a b : Nat} (h : mayPass a b = true) : a = 0 ∨ ((a = 1 ∨ a = 2 ∨ a = 6) ∧ (b = 0 ∨ b = 1 ∨ b = 2 ∨ b = 6)) ∨ ((a = 6 ∨ a = 4) ∧ b = 5) := by
  unfold mayPass at h
  split at h <;> first | exact absurd h (by decide) | simp
theorem clsO_light {quiet : Bool} {o : Oper} (h : clsO cx quiet ops o = 0 ∨ clsO cx quiet ops o = 1 ∨ clsO cx quiet ops o = 2 ∨ clsO cx quiet ops o = 6) : clsOf cx quiet o.op ≠ 3 ∧ (clsO cx quiet ops o = 0 → clsOf cx quiet o.op ≠ 2) := by
  obtain ⟨dst, op, ty, pos, af, guard⟩ := o
  unfold clsO at h ⊢
  cases quiet with
  | true => exact ⟨by simp only at h ⊢; omega, fun h => by simp only at h ⊢; omega⟩
  | false =>
    simp only at h ⊢
    cases op with
    | store t a v =>
      exfalso
      simp only at h
      repeat' split at h
      all_goals simp at h
    | load t a => exact ⟨by simp [clsOf], fun h => by simp [clsOf]⟩
    | slice => exact ⟨by simp [clsOf], fun h => by simp at h⟩
    | indexAddr => exact ⟨by simp [clsOf], fun h => by simp at h⟩
    | _ => exact ⟨by simp only at h; omega, fun h => by simp only at h; omega⟩
theorem putO_id {H : HH} {id : Id} {u : Option Row} (h : u ≠ none) : putO H id u id ≠ none := by
  cases u with
  | none => exact absurd rfl h
  | some r => simp [putO, HH.put_same]
theorem putO_ne {H : HH} {id r : Id} {u : Option Row} (h : r ≠ id) : putO H id u r = H r := by
  cases u with
  | none => rfl
  | some x => exact HH.put_ne _ _ h
theorem putO_grow {H : HH} {id r : Id} {u : Option Row} {row : Row} (hf : u ≠ none → H id = none) (h : H r = some row) : putO H id u r = some row := by
  cases u with
  | none => exact h
  | some x =>
    have := hf (by simp)
    rw [putO_ne fun e => by rw [e, this] at h; cases h]
    exact h
theorem putO_comm {H : HH} {a b : Id} {u v : Option Row} (h : u ≠ none → v ≠ none → a ≠ b) : putO (putO H a u) b v = putO (putO H b v) a u := by
  cases u with
  | none => rfl
  | some x =>
    cases v with
    | none => rfl
    | some y =>
      have := h (by simp) (by simp)
      funext r
      show (HH.put (HH.put H a x) b y) r = (HH.put (HH.put H b y) a x) r
      by_cases h1 : r = a
      · subst h1; rw [HH.put_ne _ _ this, HH.put_same, HH.put_same]
      · by_cases h2 : r = b
        · subst h2; rw [HH.put_same, HH.put_ne _ _ h1, HH.put_same]
        · rw [HH.put_ne _ _ h2, HH.put_ne _ _ h1, HH.put_ne _ _ h1, HH.put_ne _ _ h2]
theorem updT_names {dst : Option Nat} {v : Option AV} {T : TT} {o : Oper} (h : ∀ d, dst = some d → d ∉ namesOf ops o) : ∀ t, t ∈ namesOf ops o → updT dst v T t = T t :=
  fun t ht => updT_ne fun e => h t e ht
theorem chkOwn_re {T T2 : TT} : ∀ {l : List Nat}, (∀ t, t ∈ l → T2 t = T t) → chkOwn g T2 l → chkOwn g T l
  | [], _, _ => trivial
  | t :: l, ht, h => by
    simp only [chkOwn] at h ⊢
    rw [ht t (by simp)] at h
    exact ⟨h.1, chkOwn_re (fun t h => ht t (by simp [h])) h.2⟩
theorem chkFrz_re {T T2 : TT} : ∀ {l : List Nat}, (∀ t, t ∈ l → T2 t = T t) → chkFrz T2 l → chkFrz T l
  | [], _, _ => trivial
  | t :: l, ht, h => by
    simp only [chkFrz] at h ⊢
    rw [ht t (by simp)] at h
    exact ⟨h.1, chkFrz_re (fun t h => ht t (by simp [h])) h.2⟩
theorem chkFrz_at {T : TT} : ∀ {l : List Nat}, chkFrz T l → ∀ t, t ∈ l → ∀ av r, T t = some av → headId av = some r → False
  | t :: l, h, t', ht', av, r, h1, h2 => by
    simp only [chkFrz] at h
    rcases List.mem_cons.1 ht' with rfl | ht'
    · have := h.1
      rw [h1] at this
      simp only [h2] at this
    · exact chkFrz_at h.2 t' ht' av r h1 h2
theorem chkOwn_at {T : TT} : ∀ {l : List Nat}, chkOwn g T l → ∀ t, t ∈ l → ∀ av r, T t = some av → headId av = some r → r.1 = g
  | t :: l, h, t', ht', av, r, h1, h2 => by
    simp only [chkOwn] at h
    rcases List.mem_cons.1 ht' with rfl | ht'
    · have := h.1
      rw [h1] at this
      simp only [h2] at this
      exact Nat.eq_of_beq_eq_true this
    · exact chkOwn_at h.2 t' ht' av r h1 h2
theorem st_name {t : TypeId} {p : Nat} {v : Operand} {dst : Option Nat} {ty : TypeId} {pos : String} {af : Array Edge} {gd : Option (Nat × Bool)} : p ∈ namesOf ops ⟨dst, .store t (.tmp p) v, ty, pos, af, gd⟩ := by
  unfold namesOf
  exact List.mem_append_left _ (List.mem_filterMap.2 ⟨.tmp p, by simp [Op.operands], rfl⟩)
theorem chkO_re {o : Oper} {T T2 : TT} {X X2 : Prop} (ht : ∀ t, t ∈ namesOf ops o → T2 t = T t) (h : chkO g ops o T2 X2) (hx : X) : chkO g ops o T X := by
  obtain ⟨dst, op, ty, pos, af, guard⟩ := o
  unfold chkO at h ⊢
  cases op with
  | store t a v =>
    cases a with
    | tmp p =>
      simp only at h ⊢
      rw [← ht p st_name]
      exact ⟨h.1, hx⟩
    | _ => exact hx
  | load t a =>
    cases a with
    | tmp p =>
      simp only at h ⊢
      generalize ownSt ops p = b at *
      cases b with
      | true => exact ⟨chkOwn_re ht h.1, hx⟩
      | false => exact ⟨chkFrz_re ht h.1, hx⟩
    | _ => exact ⟨chkOwn_re ht h.1, hx⟩
  | slice => exact ⟨chkOwn_re ht h.1, hx⟩
  | indexAddr => exact ⟨chkOwn_re ht h.1, hx⟩
  | _ => exact hx
theorem W1c_of {quiet : Bool} {o : Oper} {T : TT} {H : HH} {K : TT → HH → Prop} {KP : AV → TT → HH → Prop} (h : W1c cx nt g quiet ops o T H K KP) : W1 cx nt g quiet ops o T H K KP := by
  cases quiet with
  | true => exact h
  | false =>
    obtain ⟨dst, op, ty, pos, af, guard⟩ := o
    simp only [W1c, chkO] at h
    cases op with
    | store t a v =>
      cases a with
      | tmp p => exact h.2
      | _ => exact h
    | load t a =>
      cases a with
      | tmp p =>
        simp only at h
        generalize ownSt ops p = b at *
        cases b with
        | true => exact h.2
        | false => exact h.2
      | _ => exact h.2
    | slice => exact h.2
    | indexAddr => exact h.2
    | _ => exact h
theorem W1c_re {quiet : Bool} {o : Oper} {T T2 : TT} {H H2 : HH} {K K2 : TT → HH → Prop} {KP KP2 : AV → TT → HH → Prop} (h : W1c cx nt g quiet ops o T2 H2 K2 KP2) (ht : ∀ t, t ∈ namesOf ops o → T2 t = T t) (hw : W1 cx nt g quiet ops o T H K KP) : W1c cx nt g quiet ops o T H K KP := by
  cases quiet with
  | true => exact hw
  | false =>
    unfold W1c at h ⊢
    exact chkO_re ht h hw
theorem det_row (es : List (List AV)) (vs : List AV) (i j : Nat) : Det (ι := Unit) Any (fun K : List (List AV) → Prop => okCells vs <| nthK es i fun e => updN j vs e fun e' => match es with | [_] => K [e'] | es => K (es.set i e')) (fun _ K => okCells vs <| nthK es i fun e => updN j vs e fun e' => match es with | [_] => K [e'] | es => K (es.set i e')) := by
  refine det_okCells ((det_nthK _ _).bind fun e _ => (det_updN _ _ _).bind fun e' _ => ?_) _
  split <;> exact .pure _
/-- A marked store, in whatever state that shows it the same row. -/
theorem W1_st {quiet : Bool} {o : Oper} {T : TT} {H : HH} {K : TT → HH → Prop} {KP : AV → TT → HH → Prop} (hc : clsO cx quiet ops o = 4 ∨ clsO cx quiet ops o = 5) (h : W1c cx nt g quiet ops o T H K KP) :
    ∃ (r : Id) (row row' : Row), Nat.beq r.1 g = Nat.beq (clsO cx quiet ops o) 4 ∧ H r = some row ∧ K T (H.put r row') ∧
      ∀ (T2 : TT) (H2 : HH) (K2 : TT → HH → Prop) (KP2 : AV → TT → HH → Prop), (∀ t, t ∈ namesOf ops o → T2 t = T t) → H2 r = some row → K2 T2 (H2.put r row') → W1 cx nt g quiet ops o T2 H2 K2 KP2 := by
  obtain ⟨dst, op, ty, pos, af, guard⟩ := o
  have hw := W1c_of h
  cases quiet with
  | true =>
    exfalso
    unfold clsO at hc
    simp only at hc
    unfold clsOf at hc
    repeat' split at hc
    all_goals simp at hc
  | false =>
  cases op with
  | store t a v =>
    cases a with
    | tmp p =>
      cases guard with
      | some _ => simp [clsO] at hc
      | none =>
      cases dst with
      | some _ => simp [clsO] at hc
      | none =>
      have hv : ∀ {T2 : TT}, (∀ t', t' ∈ namesOf ops ⟨none, .store t (.tmp p) v, ty, pos, af, none⟩ → T2 t' = T t') → ev cx T2 v = ev cx T v := fun ht => ev_names ht v (by simp [Op.operands])
      simp only [W1c, chkO] at h
      have hck := h.1
      split at hck
      rotate_left
      · exact hck.elim
      rename_i r i j hp
      have hcl : Nat.beq r.1 g = Nat.beq (clsO cx false ops ⟨none, .store t (.tmp p) v, ty, pos, af, none⟩) 4 := by
        rw [hck]
        unfold clsO
        simp only
        cases ownSt ops p <;> rfl
      unfold W1 at hw
      simp only [opK, withE, ev, hp] at hw
      split at hw
      rotate_left
      · exact hw.elim
      rename_i vv hvv
      split at hw
      rotate_left
      · exact hw.elim
      rename_i hty
      split at hw
      rotate_left
      · exact hw.elim
      rename_i hlen
      unfold storeK at hw
      simp only at hw
      split at hw
      rotate_left
      · exact hw.elim
      rename_i sz bs es hr
      obtain ⟨es', _, h1, h2⟩ := det_row es (cellsOf vv) i j (fun es' => K T (H.put r (.cells sz bs es'))) hw
      refine ⟨r, _, .cells sz bs es', hcl, hr, h1, fun T2 H2 K2 KP2 ht hr2 hk => ?_⟩
      unfold W1
      have hpp : ev cx T2 (.tmp p) = some (.ptr r i j) := (ht p st_name).trans hp
      have hvv2 : ev cx T2 v = some vv := (hv ht).trans hvv
      simp only [opK, withE, hvv2, hpp, hty, hlen, storeK, hr2]
      exact h2 () (fun es' => K2 T2 (H2.put r (.cells sz bs es'))) hk
    | _ => simp [clsO] at hc
  | load t a =>
    exfalso
    simp only [clsO] at hc
    repeat' split at hc
    all_goals simp at hc
  | _ =>
    exfalso
    simp only [clsO] at hc
    first | (simp at hc; done) | (simp only [clsOf] at hc; repeat' split at hc) <;> simp at hc
theorem clsO_zero {quiet : Bool} {o : Oper} {T : TT} {H : HH} {K : TT → HH → Prop} {KP : AV → TT → HH → Prop} (hc : clsO cx quiet ops o = 0) (h : W1c cx nt g quiet ops o T H K KP) :
    clsOf cx quiet o.op = 0 ∨ ∀ t, t ∈ namesOf ops o → ∀ av r, T t = some av → headId av = some r → False := by
  cases quiet with
  | true => exact .inl hc
  | false =>
    obtain ⟨dst, op, ty, pos, af, guard⟩ := o
    simp only [W1c, chkO] at h
    cases op with
    | load t a =>
      cases a with
      | tmp p =>
        simp only [clsO] at hc
        try simp only at h
        generalize ownSt ops p = b at *
        cases b with
        | true => cases hc
        | false => exact .inr (chkFrz_at h.1)
      | _ => cases hc
    | store t a v =>
      exfalso
      simp only [clsO] at hc
      repeat' split at hc
      all_goals simp at hc
    | slice => cases hc
    | indexAddr => cases hc
    | _ => exact .inl hc
/-- An operation that may come next is taken first. -/
theorem pull {i : Nat} {oi : Oper} (hi : ops[i]? = some oi) {K : TT → HH → Prop} {KP : AV → HH → Prop} {l2 : List Nat} : ∀ (l1 : List Nat) (T : TT) (H : HH), WL cx nt g q ops (l1 ++ i :: l2) T H K KP → (∀ j, j ∈ l1 → Passes cx q ops j i) →
    (∀ t, t ∈ namesOf ops oi → ∀ av r, T t = some av → headId av = some r → H r ≠ none) → W1c cx nt g (q i) ops oi T H (fun T' H' => WL cx nt g q ops (l1 ++ l2) T' H' K KP) (fun v _ H' => KP v H')
  | [], T, H, h, _, _ => by
    simp only [List.nil_append, WL, hi] at h
    exact h
  | j :: l1, T, H, h, hp, hs => by
    obtain ⟨oj, oi', hj, hi', hm, ht⟩ := hp j (by simp)
    obtain rfl := Option.some.inj (hi'.symm.trans hi)
    obtain ⟨t1, t2⟩ := tmpMeet_spec ht
    simp only [List.cons_append, WL, hj] at h
    have hms := mayPass_spec hm
    by_cases h45 : clsO cx (q j) ops oj = 4
    · -- a store into a block of its own, and one into another
      have h5 : clsO cx (q i) ops oi' = 5 := by
        rcases hms with h | h | h
        · omega
        · omega
        · exact h.2
      obtain ⟨r1, row1, row1', g1, e1, k1, rep1⟩ := W1_st (.inl h45) h
      rw [h45] at g1
      have hs1 : ∀ t, t ∈ namesOf ops oi' → ∀ av r, T t = some av → headId av = some r → (H.put r1 row1') r ≠ none := by
        intro t ht' av r h1 h2
        by_cases e : r = r1
        · subst e; rw [HH.put_same]; simp
        · rw [HH.put_ne _ _ e]; exact hs t ht' av r h1 h2
      have ih := pull hi l1 _ _ k1 (fun k hk => hp k (by simp [hk])) hs1
      obtain ⟨r2, row2, row2', g2, e2, k2, rep2⟩ := W1_st (.inr h5) ih
      rw [h5] at g2
      have hne : r1 ≠ r2 := by
        intro e
        rw [e, g2] at g1
        cases g1
      rw [HH.put_ne _ _ hne.symm] at e2
      refine W1c_re ih (fun _ _ => rfl) (rep2 _ _ _ _ (fun _ _ => rfl) e2 ?_)
      simp only [List.cons_append, WL, hj]
      refine W1c_re h (fun _ _ => rfl) (rep1 _ _ _ _ (fun _ _ => rfl) (by rw [HH.put_ne _ _ hne]; exact e1) ?_)
      have : (H.put r2 row2').put r1 row1' = (H.put r1 row1').put r2 row2' := by
        funext r
        by_cases h1 : r = r1
        · subst h1; rw [HH.put_same, HH.put_ne _ _ hne, HH.put_same]
        · by_cases h2 : r = r2
          · subst h2; rw [HH.put_same, HH.put_ne _ _ h1, HH.put_same]
          · rw [HH.put_ne _ _ h1, HH.put_ne _ _ h2, HH.put_ne _ _ h2, HH.put_ne _ _ h1]
      rw [this]
      exact k2
    have hlj : clsOf cx (q j) oj.op ≠ 3 ∧ (clsO cx (q j) ops oj = 0 → clsOf cx (q j) oj.op ≠ 2) := clsO_light (by omega)
    have hcj := hlj.1
    obtain ⟨v, u, a1, a2, a3, a4⟩ := W1_loc hcj (W1c_of h)
    have hT1 : ∀ t, t ∈ namesOf ops oi' → updT oj.dst v T t = T t := updT_names fun d hd => (t1 d hd).1
    have hs1 : ∀ t, t ∈ namesOf ops oi' → ∀ av r, updT oj.dst v T t = some av → headId av = some r → putO H (idOf g oj) u r ≠ none := by
      intro t ht' av r h1 h2
      rw [hT1 t ht'] at h1
      have := hs t ht' av r h1 h2
      cases hr : H r with
      | none => exact absurd hr this
      | some row => rw [putO_grow a1 hr]; simp
    have ih := pull hi l1 _ _ a3 (fun k hk => hp k (by simp [hk])) hs1
    by_cases h0' : clsO cx (q j) ops oj = 0
    · obtain rfl := a2 (hlj.2 h0')
      have h0 := clsO_zero h0' h
      have := W1_congr (T2 := T) (fun t ht => (hT1 t ht).symm) (W1c_of ih)
      refine W1c_re ih hT1 (W1_mono (fun T' H' hh => ?_) this)
      obtain ⟨x, rfl, hh⟩ := hh
      simp only [List.cons_append, WL, hj]
      have hTj : ∀ t, t ∈ namesOf ops oj → updT oi'.dst x T t = T t := updT_names fun d hd => t2 d hd
      refine W1c_re h (fun t ht => (hTj t ht).symm) (a4 _ _ _ _ hTj (h0.imp id fun h0 t ht av r _ h1 h2 _ => (h0 t ht av r h1 h2).elim) (fun h => absurd rfl h) ?_)
      rw [updT_comm fun d hd e => (t1 d hd).2 e]
      exact hh
    by_cases h5 : clsO cx (q i) ops oi' = 5
    · -- what reads rows of its own, and a store into another
      have h6 : clsO cx (q j) ops oj = 6 := by omega
      obtain ⟨r2, row2, row2', g2, e2, k2, rep2⟩ := W1_st (.inr h5) ih
      rw [h5] at g2
      have hng : r2.1 ≠ g := fun e => by rw [e] at g2; simp at g2
      have hid : r2 ≠ idOf g oj := fun e => hng (by rw [e]; rfl)
      rw [putO_ne hid] at e2
      have hown : ∀ t, t ∈ namesOf ops oj → ∀ av r, T t = some av → headId av = some r → r.1 = g := by
        have hq : q j = false := by
          cases hq : q j with
          | false => rfl
          | true =>
            exfalso
            rw [hq] at h6
            unfold clsO at h6
            simp only at h6
            unfold clsOf at h6
            repeat' split at h6
            all_goals simp at h6
        rw [hq] at h h6
        obtain ⟨dst, op, ty, pos, af, guard⟩ := oj
        simp only [W1c, chkO] at h
        cases op with
        | load t a =>
          cases a with
          | tmp p =>
            simp only [clsO] at h6
            try simp only at h
            generalize ownSt ops p = b at *
            cases b with
            | true => exact chkOwn_at h.1
            | false => cases h6
          | _ => exact chkOwn_at h.1
        | slice => exact chkOwn_at h.1
        | indexAddr => exact chkOwn_at h.1
        | store t a v =>
          exfalso
          simp only [clsO] at h6
          repeat' split at h6
          all_goals simp at h6
        | _ =>
          exfalso
          simp only [clsO] at h6
          first | (simp at h6; done) | (simp only [clsOf] at h6; repeat' split at h6) <;> simp at h6
      refine W1c_re ih hT1 (rep2 _ _ _ _ (fun t ht => (hT1 t ht).symm) e2 ?_)
      simp only [List.cons_append, WL, hj]
      refine W1c_re h (fun _ _ => rfl) (a4 _ _ _ _ (fun _ _ => rfl) (.inr fun t ht' av r row h1 h2 h3 => ?_) (fun hu => ?_) ?_)
      · rw [HH.put_ne _ _ (show r ≠ r2 from fun e => hng (by rw [← e]; exact hown t ht' av r h1 h2))]; exact h3
      · rw [HH.put_ne _ _ hid.symm]; exact a1 hu
      · have : putO (H.put r2 row2') (idOf g oj) u = (putO H (idOf g oj) u).put r2 row2' := by
          have := @putO_comm H r2 (idOf g oj) (some row2') u (fun _ _ => hid)
          exact this
        rw [this]
        exact k2
    have hli : clsOf cx (q i) oi'.op ≠ 3 := (clsO_light (ops := ops) (o := oi') (quiet := q i) (cx := cx) (by omega)).1
    obtain ⟨x, y, b1, b2, b3, b4⟩ := W1_loc hli (W1c_of ih)
    have hne : u ≠ none → y ≠ none → idOf g oj ≠ idOf g oi' := by
      intro hu hy e
      have := b1 hy
      rw [← e] at this
      exact putO_id hu this
    have hfr : y ≠ none → H (idOf g oi') = none := by
      intro hy
      have := b1 hy
      cases hr : H (idOf g oi') with
      | none => rfl
      | some row => rw [putO_grow a1 hr] at this; cases this
    refine W1c_re ih hT1 (b4 T H _ _ (fun t ht => (hT1 t ht).symm) (.inr fun t ht' av r row h1 h2 h3 => ?_) hfr ?_)
    · rw [hT1 t ht'] at h1
      cases hr : H r with
      | none => exact absurd hr (hs t ht' av r h1 h2)
      | some row' => rw [putO_grow a1 hr] at h3; exact h3
    · simp only [List.cons_append, WL, hj]
      have hTj : ∀ t, t ∈ namesOf ops oj → updT oi'.dst x T t = T t := updT_names fun d hd => t2 d hd
      refine W1c_re h (fun t ht => (hTj t ht).symm) (a4 _ _ _ _ hTj (.inr fun t ht' av r row h1 h2 h3 => putO_grow hfr h3) (fun hu => ?_) ?_)
      · by_cases hy : y = none
        · subst hy; exact a1 hu
        · rw [putO_ne (hne hu hy)]; exact a1 hu
      · rw [updT_comm fun d hd e => (t1 d hd).2 e, putO_comm fun h1 h2 => (hne h2 h1).symm]
        exact b3
/-- What stands ahead of an operation by hard edges. -/
inductive Reach (ops : Array Oper) : Nat → Nat → Prop
  | one {i o e} : ops[i]? = some o → e ∈ o.after.toList → hard e = true → Reach ops i e.on
  | step {i o e j} : ops[i]? = some o → e ∈ o.after.toList → hard e = true → Reach ops e.on j → Reach ops i j
theorem ahT_reach : ∀ (l : List Oper) (acc : List (List Nat)), (∀ k, l[k]? = ops[acc.length + k]?) → (∀ i j, j ∈ acc.getD i [] → Reach ops i j) → ∀ i j, j ∈ (ahT l acc).getD i [] → Reach ops i j
  | [], acc, _, h => h
  | o :: l, acc, hl, h => by
    simp only [ahT]
    refine ahT_reach l _ (fun k => ?_) fun i j hj => ?_
    · have := hl (k + 1)
      simpa [Nat.add_assoc, Nat.add_comm 1 k] using this
    · by_cases hi : i < acc.length
      · rw [List.getD_eq_getElem?_getD, List.getElem?_append_left hi, ← List.getD_eq_getElem?_getD] at hj
        exact h i j hj
      · by_cases he : i = acc.length
        · subst he
          have ho : ops[acc.length]? = some o := by have := hl 0; simpa using this.symm
          simp only [List.getD_eq_getElem?_getD, List.getElem?_concat_length, Option.getD_some, List.mem_flatMap, List.mem_filter] at hj
          obtain ⟨e, ⟨he, hh⟩, hj⟩ := hj
          rcases List.mem_cons.1 hj with rfl | hj
          · exact .one ho he hh
          · exact .step ho he hh (h _ _ (by rw [List.getD_eq_getElem?_getD]; exact hj))
        · rw [List.getD_eq_getElem?_getD, List.getElem?_eq_none (by simp; omega)] at hj
          simp at hj
def HardOn (ops : Array Oper) (i j : Nat) : Prop := ∃ o e, ops[i]? = some o ∧ e ∈ o.after.toList ∧ hard e = true ∧ e.on = j
structure Good (cx : Cx) (q : Nat → Bool) (ops : Array Oper) (l : List Nat) : Prop where
  pass : l.Pairwise fun j i => Reach ops i j ∨ Passes cx q ops j i
  hrd : l.Pairwise fun j i => ¬ HardOn ops j i
  self : ∀ i, i ∈ l → ¬ HardOn ops i i
  nd : l.Nodup
theorem Good.sub {l l' : List Nat} (h : Good cx q ops l) (s : l'.Sublist l) : Good cx q ops l' :=
  ⟨h.pass.sublist s, h.hrd.sublist s, fun i hi => h.self i (s.subset hi), h.nd.sublist s⟩
theorem orderOk_go {ah : List (List Nat)} (hah : ∀ i j, j ∈ ah.getD i [] → Reach ops i j) : ∀ (l seen : List Nat), orderOk.go cx q ops ah seen l = true →
    Good cx q ops l ∧ ∀ i, i ∈ l → i ∉ seen ∧ ((∃ o, ops[i]? = some o) ∧ ∀ j, HardOn ops i j → j ∈ seen ∨ j ∈ l) ∧ ∀ j, j ∈ seen → Reach ops i j ∨ Passes cx q ops j i
  | [], seen, _ => ⟨⟨.nil, .nil, by simp, .nil⟩, by simp⟩
  | i :: l, seen, h => by
    simp only [orderOk.go, Bool.and_eq_true] at h
    obtain ⟨⟨h0, h1⟩, h2⟩ := h
    obtain ⟨ih, ihs⟩ := orderOk_go hah l (i :: seen) h2
    have hns : i ∉ seen := by simpa using h0
    split at h1
    · cases h1
    rename_i b hb
    rw [Bool.and_eq_true] at h1
    obtain ⟨h3, h4⟩ := h1
    have f1 : ∀ k, HardOn ops i k → k ∈ seen := by
      rintro k ⟨o, e, ho, he, hh, rfl⟩
      rw [hb] at ho; cases ho
      have := List.all_eq_true.1 h3 e he
      simpa [hh] using this
    have f2 : ∀ j, j ∈ seen → Reach ops i j ∨ Passes cx q ops j i := by
      intro j hj
      have := List.all_eq_true.1 h4 j hj
      rw [Bool.or_eq_true] at this
      rcases this with h | h
      · exact .inl (hah i j (by simpa using h))
      · right
        split at h
        · cases h
        · rename_i a ha
          rw [Bool.and_eq_true] at h
          exact ⟨a, b, ha, hb, h.1, by simpa using h.2⟩
    have f3 : ∀ k, k ∈ l → k ∉ seen ∧ k ≠ i := fun k hk => by
      have := (ihs k hk).1
      simp only [List.mem_cons, not_or] at this
      exact ⟨this.2, this.1⟩
    refine ⟨⟨List.pairwise_cons.2 ⟨fun k hk => (ihs k hk).2.2 i (by simp), ih.pass⟩, List.pairwise_cons.2 ⟨fun k hk hh => (f3 k hk).1 (f1 k hh), ih.hrd⟩, fun k hk => ?_, List.nodup_cons.2 ⟨fun hi => (f3 i hi).2 rfl, ih.nd⟩⟩, fun k hk => ?_⟩
    · rcases List.mem_cons.1 hk with rfl | hk
      · exact fun hh => hns (f1 _ hh)
      · exact ih.self k hk
    · rcases List.mem_cons.1 hk with rfl | hk
      · exact ⟨hns, ⟨⟨b, hb⟩, fun j hj => .inl (f1 j hj)⟩, f2⟩
      · exact ⟨(f3 k hk).1, ⟨(ihs k hk).2.1.1, fun j hj => by
          have := (ihs k hk).2.1.2 j hj
          simp only [List.mem_cons] at this ⊢
          rcases this with (h | h) | h
          · exact .inr (.inl h)
          · exact .inl h
          · exact .inr (.inr h)⟩, fun j hj => (ihs k hk).2.2 j (by simp [hj])⟩
theorem binds_any (e : Edge) : Region.binds .any e = hard e := by
  obtain ⟨on, gr⟩ := e
  cases gr <;> rfl
theorem inScope {E : Entry} {T : TT} {H : HH} {a : Act} {w : World} {μ : Id → Option Loc} {F : Nat → Prop} (s : SimX cx nt E T H a w μ F) {t : Nat} {av : AV} {r : Id} (h1 : T t = some av) (h2 : headId av = some r) : H r ≠ none := by
  intro hn
  have := s.h.dom r hn
  have hr := s.t t av h1
  generalize a.tmps.getD t undef = x at hr
  cases av <;> simp only [headId] at h2 <;> cases h2
  · cases hr with
    | frz h => cases h
    | row0 h => rw [this] at h; cases h
    | row h => rw [this] at h; cases h
  · cases hr with
    | frz h => cases h
    | ptr h => rw [this] at h; cases h
  · cases hr with
    | frz h => cases h
    | mref h => rw [this] at h; cases h
variable {E : Entry} {Q : Exit → Act → World → Prop} {K : TT → HH → Prop}
theorem SimX.emp {T : TT} {H : HH} {a : Act} {w : World} {μ : Id → Option Loc} {F : Nat → Prop} (s : SimX cx nt E T H a w μ F) : SimX cx nt E TT.emp H a w μ F := ⟨s.h, s.g, fun _ _ h => (by cases h), fun _ _ h => (by cases h), s.n, s.d, s.f⟩
theorem WL_sound (ok : CxOK cx) {KP : AV → HH → Prop} (hn : ∀ T' H' a' w' μ' F', K T' H' → SimX cx nt E T' H' a' w' μ' F' → Q .normal a' w') (hpn : ∀ v H' a' w' μ' F' x, KP v H' → SimX cx nt E TT.emp H' a' w' μ' F' → Rep w' μ' F' v x → Q (.panic [{ v := x, recovered := false }]) a' w') : ∀ (n : Nat) (l : List Nat) (listed : Array Bool) (T : TT) (H : HH) (a : Act) (w : World) (μ : Id → Option Loc) (F : Nat → Prop),
    l.length = n → Good cx q ops l → listed.size = ops.size → (∀ i, i ∈ l ↔ i < ops.size ∧ listed.getD i true = false) → (∀ i j, i < ops.size → i ∉ l → HardOn ops i j → j ∉ l) → (∀ i j, HardOn ops i j → j < ops.size) →
    WL cx nt g q ops l T H K KP → SimX cx nt E T H a w μ F → wpAny cx.P .any ops Q n listed a w := by
  intro n
  induction n with
  | zero =>
    intro l listed T H a w μ F hl _ _ hm _ _ h s
    have : l = [] := List.eq_nil_of_length_eq_zero hl
    subst this
    refine ⟨?_, hn _ _ _ _ _ _ h s⟩
    rw [List.eq_nil_iff_forall_not_mem]
    intro i hi
    obtain ⟨h1, o, ho, _⟩ := mem_ready.1 hi
    exact absurd ((hm i).2 ⟨(Array.getElem?_eq_some_iff.1 ho).1, h1⟩) (by simp)
  | succ n ih =>
    intro l listed T H a w μ F hl hg hsz hm hdc hrg h s
    have isl : ∀ j, j < ops.size → j ∉ l → listed.getD j false = true := by
      intro j hj hjl
      have : ¬ (listed.getD j true = false) := fun e => hjl ((hm j).2 ⟨hj, e⟩)
      simp only [Array.getD_eq_getD_getElem?, Array.getElem?_eq_getElem (show j < listed.size by omega), Option.getD_some] at this ⊢
      simpa using this
    have rdy : ∀ i o, i ∈ l → ops[i]? = some o → (∀ j, HardOn ops i j → j ∉ l) → i ∈ Region.ready .any ops listed := by
      intro i o hi ho hh
      refine mem_ready.2 ⟨((hm i).1 hi).2, o, ho, fun e he hb => ?_⟩
      rw [binds_any] at hb
      have hon : HardOn ops i e.on := ⟨o, e, ho, by simpa using he, hb, rfl⟩
      exact isl _ (hrg _ _ hon) (hh _ hon)
    refine ⟨fun hr => ?_, fun i hi => ?_⟩
    · exfalso
      cases l with
      | nil => simp at hl
      | cons i l =>
        have h1 := ((hm i).1 (by simp)).1
        have := rdy i ops[i] (by simp) (Array.getElem?_eq_getElem h1) fun j hj hjl => by
          rcases List.mem_cons.1 hjl with rfl | hjl
          · exact hg.self _ (by simp) hj
          · exact (List.pairwise_cons.1 hg.hrd).1 j hjl hj
        rw [hr] at this
        cases this
    · obtain ⟨h1, o, ho, he⟩ := mem_ready.1 hi
      have hlt := (Array.getElem?_eq_some_iff.1 ho).1
      have hil : i ∈ l := (hm i).2 ⟨hlt, h1⟩
      have hon : ∀ j, HardOn ops i j → j ∉ l := by
        rintro j ⟨o', e, ho', he', hh, rfl⟩ hjl
        rw [ho] at ho'; cases ho'
        have h2 := he e (by simpa using he') (by rw [binds_any]; exact hh)
        have h3 := ((hm _).1 hjl).2
        simp only [Array.getD_eq_getD_getElem?] at h2 h3
        cases hx : listed[e.on]? with
        | none => rw [hx] at h2; cases h2
        | some x => rw [hx] at h2 h3; simp only [Option.getD_some] at h2 h3; rw [h2] at h3; cases h3
      have reach : ∀ k j, Reach ops k j → (k = i ∨ (k < ops.size ∧ k ∉ l)) → j ∉ l := by
        intro k j hr
        induction hr with
        | one ho' he' hh =>
          rename_i k o' e
          rintro (rfl | ⟨hk, hkl⟩)
          · exact hon _ ⟨_, _, ho', he', hh, rfl⟩
          · exact hdc _ _ hk hkl ⟨_, _, ho', he', hh, rfl⟩
        | step ho' he' hh _ ihr =>
          rename_i k o' e j _
          intro hk
          have hd : HardOn ops k e.on := ⟨_, _, ho', he', hh, rfl⟩
          refine ihr (.inr ⟨hrg _ _ hd, ?_⟩)
          rcases hk with rfl | ⟨hk, hkl⟩
          · exact hon _ hd
          · exact hdc _ _ hk hkl hd
      obtain ⟨l1, l2, rfl⟩ := List.append_of_mem hil
      have hnd := hg.nd
      have hps : ∀ j, j ∈ l1 → Passes cx q ops j i := by
        intro j hj
        have := (List.pairwise_append.1 hg.pass).2.2 j hj i (by simp)
        rcases this with h | h
        · exact absurd (by simp [hj]) (reach i j h (.inl rfl))
        · exact h
      have hp := W1c_of (pull ho l1 T H h hps fun t _ av r h1 h2 => inScope s h1 h2)
      have hsub : (l1 ++ l2).Sublist (l1 ++ i :: l2) := (List.Sublist.refl l1).append (List.sublist_cons_self i l2)
      have hnm : ∀ j, j ∈ l1 ++ l2 ↔ j ∈ l1 ++ i :: l2 ∧ j ≠ i := by
        intro j
        have hi2 : i ∉ l1 ++ l2 := by
          have := List.nodup_append.1 hnd
          obtain ⟨_, n2, n3⟩ := this
          have n4 := (List.nodup_cons.1 n2).1
          intro hh
          rcases List.mem_append.1 hh with hh | hh
          · exact n3 i hh i (by simp) rfl
          · exact n4 hh
        constructor
        · intro hj
          exact ⟨hsub.subset hj, fun e => hi2 (e ▸ hj)⟩
        · rintro ⟨hj, hne⟩
          simp only [List.mem_append, List.mem_cons] at hj ⊢
          rcases hj with h | h | h
          · exact .inl h
          · exact absurd h hne
          · exact .inr h
      unfold wpOp
      simp only [ho]
      have := W1_sound (next := wpAny cx.P .any ops Q n (listed.setIfInBounds i true)) (Q := Q) ok hp s (fun T' H' a' w' μ' F' hk s' => ?_) (fun v T' H' w' μ' F' x hk s' hr => hpn v H' _ w' μ' F' x hk s'.emp hr)
      · split
        · rename_i hw; rw [if_pos hw] at this; exact .inl this
        · rename_i hw; rw [if_neg hw] at this; exact this
      · refine ih (l1 ++ l2) _ T' H' a' w' μ' F' ?_ (hg.sub hsub) (by simpa using hsz) (fun j => ?_) (fun k j hk hkl hh => ?_) hrg hk s'
        · simp only [List.length_append, List.length_cons] at hl ⊢; omega
        · rw [hnm, hm]
          by_cases hji : j = i
          · subst hji
            simp [show j < listed.size by omega]
          · rw [getD_set_ne _ (fun e => hji e.symm)]
            simp [hji]
        · rw [hnm]
          rintro ⟨hj, hne⟩
          by_cases hki : k = i
          · subst hki; exact hon j hh hj
          · exact hdc k j hk (fun hk2 => hkl ((hnm k).2 ⟨hk2, hki⟩)) hh hj
theorem WL_region (ok : CxOK cx) (hm : cx.P.follows .mixedOrders = true) {ord : List Nat} (ho : orderOk cx q ops ord = true) {T : TT} {H : HH} {KP : AV → HH → Prop} (h : WL cx nt g q ops ord T H K KP) (hn : ∀ T' H' a' w' μ' F', K T' H' → SimX cx nt E T' H' a' w' μ' F' → Q .normal a' w') (hpn : ∀ v H' a' w' μ' F' x, KP v H' → SimX cx nt E TT.emp H' a' w' μ' F' → Rep w' μ' F' v x → Q (.panic [{ v := x, recovered := false }]) a' w')
    {a : Act} {w : World} {μ : Id → Option Loc} {F : Nat → Prop} {id : Nat} (s : SimX cx nt E T H a { w with drawn := w.drawn + 1 } μ F) : (Code.region id ops true).wp cx.P Q a w := by
  refine wp_region_any hm ?_
  unfold orderOk at ho
  simp only [Bool.and_eq_true] at ho
  obtain ⟨⟨h1, h2⟩, h3⟩ := ho
  have hah := ahT_reach (ops := ops) ops.toList [] (by simp) (by simp)
  obtain ⟨hg, hs⟩ := orderOk_go hah ord [] h3
  have hin : ∀ i, i ∈ ord ↔ i < ops.size := fun i => ⟨fun hi => by
    obtain ⟨o, ho⟩ := (hs i hi).2.1.1
    exact (Array.getElem?_eq_some_iff.1 ho).1, fun hi => by
    have := List.all_eq_true.1 h2 i (List.mem_range.2 hi)
    simpa using this⟩
  refine WL_sound ok hn hpn ops.size ord _ T H a _ μ F (Nat.eq_of_beq_eq_true h1) hg (by simp) (fun i => ?_) (fun i j hi hil => absurd ((hin i).2 hi) hil) (fun i j hh => ?_) h s
  · rw [hin]
    constructor
    · intro hi; exact ⟨hi, by simp [hi]⟩
    · exact fun h => h.1
  · obtain ⟨o, e, ho, _⟩ := hh
    have hi := (hin i).2 (Array.getElem?_eq_some_iff.1 ho).1
    have := (hs i hi).2.1.2 j ⟨o, e, ho, by assumption⟩
    rcases this with h | h
    · cases h
    · exact (hin j).1 h
theorem allL_iff {α : Type} {p : α → Prop} : ∀ {l : List α}, allL p l → ∀ x, x ∈ l → p x
  | [], _, x, hx => by cases hx
  | [y], h, x, hx => by simp only [List.mem_singleton] at hx; subst hx; exact h
  | y :: z :: l, h, x, hx => by
    rcases List.mem_cons.1 hx with rfl | hx
    · exact h.1
    · exact allL_iff h.2 x hx
theorem WA_sound (ok : CxOK cx) (hn : ∀ T' H' a' w' μ' F', K T' H' → SimX cx nt E T' H' a' w' μ' F' → Q .normal a' w') : ∀ (n : Nat) (seen : List Nat) (listed : Array Bool) (T : TT) (H : HH) (a : Act) (w : World) (μ : Id → Option Loc) (F : Nat → Prop),
    listed.size = ops.size → (∀ i, i < ops.size → (i ∈ seen ↔ listed.getD i true = true)) → (∀ i, i ∈ seen → i < ops.size) →
    WA cx nt g ops n seen T H K → SimX cx nt E T H a w μ F → wpAny cx.P .any ops Q n listed a w := by
  intro n
  have same : ∀ (seen : List Nat) (listed : Array Bool), listed.size = ops.size → (∀ i, i < ops.size → (i ∈ seen ↔ listed.getD i true = true)) → (∀ i, i ∈ seen → i < ops.size) → nexts ops seen = Region.ready .any ops listed := by
    intro seen listed hsz hs hl
    unfold nexts Region.ready
    refine List.filter_congr fun i hi => ?_
    have hi := List.mem_range.1 hi
    have h1 : seen.contains i = listed.getD i true := by
      rw [Bool.eq_iff_iff, ← hs i hi]; simp
    rw [h1, Array.getElem?_eq_getElem hi]
    simp only [Option.map_some, Option.getD_some]
    congr 1
    rw [← Array.all_toList]
    refine List.all_congr rfl fun e => ?_
    rw [binds_any]
    congr 1
    rw [Bool.eq_iff_iff]
    constructor
    · intro h
      have h : e.on ∈ seen := by simpa using h
      have hlt := hl _ h
      have := (hs _ hlt).1 h
      simp only [Array.getD_eq_getD_getElem?, Array.getElem?_eq_getElem (show e.on < listed.size by omega), Option.getD_some] at this ⊢
      exact this
    · intro h
      simp only [Array.getD_eq_getD_getElem?] at h
      cases hx : listed[e.on]? with
      | none => rw [hx] at h; cases h
      | some x =>
        rw [hx] at h
        have hlt : e.on < ops.size := by have := (Array.getElem?_eq_some_iff.1 hx).1; omega
        have := (hs _ hlt).2 (by simp only [Array.getD_eq_getD_getElem?, hx]; exact h)
        simpa using this
  induction n with
  | zero =>
    intro seen listed T H a w μ F hsz hs hl h s
    simp only [WA] at h
    split at h
    · rename_i hx
      exact ⟨(same seen listed hsz hs hl).symm.trans hx, hn _ _ _ _ _ _ h s⟩
    · exact h.elim
  | succ n ih =>
    intro seen listed T H a w μ F hsz hs hl h s
    simp only [WA] at h
    split at h
    · exact h.elim
    rename_i hne
    have hx := same seen listed hsz hs hl
    refine ⟨fun hr => absurd (hx.trans hr) hne, fun i hi => ?_⟩
    rw [← hx] at hi
    have hw := allL_iff h i hi
    split at hw
    rotate_left
    · exact hw.elim
    rename_i o ho
    have hlt := (Array.getElem?_eq_some_iff.1 ho).1
    unfold wpOp
    simp only [ho]
    have := W1_sound (next := wpAny cx.P .any ops Q n (listed.setIfInBounds i true)) (Q := Q) ok hw s (fun T' H' a' w' μ' F' hk s' => ?_) (fun _ _ _ _ _ _ _ h => h.elim)
    · split
      · rename_i hw; rw [if_pos hw] at this; exact .inl this
      · rename_i hw; rw [if_neg hw] at this; exact this
    · refine ih (i :: seen) _ T' H' a' w' μ' F' (by simpa using hsz) (fun j hj => ?_) (fun j hj => ?_) hk s'
      · by_cases hji : j = i
        · subst hji
          simp [show j < listed.size by omega]
        · rw [getD_set_ne _ (fun e => hji e.symm), ← hs j hj]
          simp [hji]
      · rcases List.mem_cons.1 hj with rfl | hj
        · exact hlt
        · exact hl j hj
theorem WA_region (ok : CxOK cx) (hm : cx.P.follows .mixedOrders = true) {T : TT} {H : HH} (h : WA cx nt g ops ops.size [] T H K) (hn : ∀ T' H' a' w' μ' F', K T' H' → SimX cx nt E T' H' a' w' μ' F' → Q .normal a' w')
    {a : Act} {w : World} {μ : Id → Option Loc} {F : Nat → Prop} {id : Nat} (s : SimX cx nt E T H a { w with drawn := w.drawn + 1 } μ F) : (Code.region id ops true).wp cx.P Q a w := by
  refine wp_region_any hm ?_
  exact WA_sound ok hn ops.size [] _ T H a _ μ F (by simp) (fun i hi => by simp [hi]) (by simp) h s
end
end Go.Eng
/- Soundness: code, functions. -/
namespace Go.Eng
section
variable {cx : Cx} {nt : Nat} {E : Entry}
theorem SimX.sub {T T' : TT} {H H' : HH} {a : Act} {w : World} {μ : Id → Option Loc} {F : Nat → Prop} (s : SimX cx nt E T H a w μ F) (h : Sub T H T' H') : ∃ μ' F', SimX cx nt E T' H' a w μ' F' := by
  obtain ⟨μ', F', h1, h2, h3, h4, h5, h6⟩ := h w μ F (fun t => a.tmps.getD t undef) s.h s.t
  refine ⟨μ', F', h1, s.g.mono (fun _ _ => rfl) h3, fun t av ht => (h2 t av ht).2, fun t av ht => ?_, s.n, s.d, ?_⟩
  · obtain ⟨bv, hb⟩ := (h2 t av ht).1
    exact s.b t bv hb
  · exact ⟨s.f.os, s.f.tape, s.f.output, s.f.size, s.f.keep, fun r l h0 h => h6 r l h0 (s.f.mu r l h0 h), fun b hb => h3 b (s.f.fr b hb), fun b hb => (h4 b hb).elim (s.f.fr' b) (fun h => (s.f.lv b h).elim (fun h => .inr (.inl h)) fun h => .inr (.inr h)), fun b hb => s.f.lv b (h5 b hb)⟩
theorem SimX.facts {T : TT} {H : HH} {a : Act} {w : World} {μ : Id → Option Loc} {F : Nat → Prop} (s : SimX cx nt E T H a w μ F) : Facts T H := by
  have fs : ∀ {c sz bs n el v}, RepF w F (.fsl c sz bs n el) v → n * bs ≤ R := by
    intro c sz bs n el v h
    cases h with
    | fsE _ => simp
    | fs _ _ _ _ _ hR => exact hR
  refine ⟨fun t x h => ?_, fun t c sz bs n el h => fs (Rep_fsl (s.t t _ h)), fun t d c sz bs n el h hd => ?_, fun r sz bs es hr => ?_⟩
  · exact (Rep_lit (s.t t _ h)).2
  · have := Rep_lz (s.t t _ h)
    rw [hd] at this
    exact fs this
  · obtain ⟨l, _, h1, h2, h3, h4, _⟩ := s.h.rows r _ hr
    exact h4
theorem SimX.drew {T : TT} {H : HH} {a : Act} {w : World} {μ : Id → Option Loc} {F : Nat → Prop} (s : SimX cx nt E T H a w μ F) : SimX cx nt E T H a { w with drawn := w.drawn + 1 } μ F := by
  have k3 : Fr w μ F H { w with drawn := w.drawn + 1 } μ F H := ⟨rfl, rfl, rfl, Nat.le_refl _, fun _ _ _ => rfl, fun _ _ h => h, fun _ h => h, fun _ h => .inl h, fun _ h => .inr h⟩
  refine ⟨s.h.same (Nat.le_refl _) (fun _ _ => rfl), GOK.mono (w := w) (F := F) (fun _ _ => rfl) (fun _ h => h) s.g, fun t u hu => k3.rep s.h (s.t t u hu), s.b, s.n, s.d, s.f.step k3⟩
theorem least {p : Nat → Prop} (h : ∃ n, p n) : ∃ n, p n ∧ ∀ m, p m → n ≤ m := by
  obtain ⟨n, hn⟩ := h
  induction n using Nat.strongRecOn with
  | _ n ih =>
    by_cases hx : ∃ m, m < n ∧ p m
    · obtain ⟨m, hm, hp⟩ := hx
      exact ih m hm hp
    · exact ⟨n, hn, fun m hm => Nat.le_of_not_lt fun hl => hx ⟨m, hl, hm⟩⟩
theorem loop_wp {P : Program} {Q : Exit → Act → World → Prop} {c : Code} {ι : Type} (m : ι → Nat) (I : ι → Act → World → Prop) (round : ∀ i a w, I i a w → c.wp P (Exit.then (fun a' w' => ∃ j, m j < m i ∧ I j a' w') Q) a w) {i : ι} {a : Act} {w : World} (h : I i a w) : (Code.loop c).wp P Q a w := by
  classical
  let μ : Act → World → Nat := fun a w => if h : ∃ n, ∃ i, m i = n ∧ I i a w then (least h).choose else 0
  have hμ : ∀ {i a w}, I i a w → μ a w ≤ m i ∧ ∃ j, m j = μ a w ∧ I j a w := by
    intro i a w hi
    have hx : ∃ n, ∃ i, m i = n ∧ I i a w := ⟨m i, i, rfl, hi⟩
    simp only [μ, dif_pos hx]
    exact ⟨(least hx).choose_spec.2 _ ⟨i, rfl, hi⟩, (least hx).choose_spec.1⟩
  refine wp_loop (fun a w => ∃ i, I i a w) μ ⟨i, h⟩ fun a w ⟨i, hi⟩ => ?_
  obtain ⟨_, j, hj, hI⟩ := hμ hi
  refine wp_mono (round j a w hI) fun e a' w' hq => ?_
  cases e with
  | normal =>
    obtain ⟨k, hk, hk2⟩ := hq
    exact ⟨⟨k, hk2⟩, by have := (hμ hk2).1; omega⟩
  | _ => exact hq
theorem WC_sound (ok : CxOK cx) : ∀ (c : Code) (g : Nat) (T : TT) (H : HH) (Q : AX → TT → HH → Prop), WC cx nt g c T H Q → ∀ a w μ F, SimX cx nt E T H a w μ F → c.wp cx.P (Lift cx nt E Q) a w := by
  intro c
  induction c with
  | skip => exact fun g T H Q h a w μ F s => wp_skip ⟨_, _, _, _, _, h, s, .normal⟩
  | region id ops draw =>
    intro g T H Q h a w μ F s
    have go : ∀ {T H μ F}, SimX cx nt E T H a w μ F → (Facts T H → RW cx nt g ops draw T H Q) → (Code.region id ops draw).wp cx.P (Lift cx nt E Q) a w := by
      intro T H μ F s h
      have h := h s.facts
      cases draw with
      | false =>
        refine wp_region_list (W_sound ok (fun T' H' a' w' μ' F' k s' => ⟨_, _, _, _, _, k, s', .normal⟩) (fun v T' H' a' w' μ' F' x k s' r => ⟨_, _, _, _, _, k, s', .panic r⟩) _ _ _ _ h _ _ _ _ s)
      | true =>
        rcases h with ⟨q, ord, ho, h⟩ | h
        · exact WL_region ok ok.mixed ho h (fun T' H' a' w' μ' F' k s' => ⟨_, _, _, _, _, k, s', .normal⟩) (fun v H' a' w' μ' F' x k s' r => ⟨_, _, _, _, _, k, s', .panic r⟩) s.drew
        · exact WA_region ok ok.mixed h (fun T' H' a' w' μ' F' k s' => ⟨_, _, _, _, _, k, s', .normal⟩) s.drew
    rcases h with h | ⟨TL, HL, hs, h⟩
    · exact go s h
    · obtain ⟨μ', F', s'⟩ := s.sub hs
      exact go s' h
  | seq x y ihx ihy =>
    intro g T H Q h a w μ F s
    refine wp_seq (wp_mono (ihx g T H _ h a w μ F s) fun e a' w' hq => ?_)
    obtain ⟨ae, T', H', μ', F', hk, s', hr⟩ := hq
    cases hr with
    | normal => exact ihy g _ _ _ hk _ _ _ _ s'
    | exit => exact ⟨_, _, _, _, _, hk, s', .exit⟩
    | goto => exact ⟨_, _, _, _, _, hk, s', .goto⟩
    | ret => exact ⟨_, _, _, _, _, hk, s', .ret⟩
    | panic r => exact ⟨_, _, _, _, _, hk, s', .panic r⟩
  | cond c x y ihx ihy =>
    intro g T H Q h a w μ F s
    simp only [WC] at h
    split at h
    rotate_left
    · exact h.elim
    rename_i t hv
    have hc := (Rep_lit (ev_sound s.g s.t hv)).1
    unfold Br at h
    refine wp_cond_split hc (fun ht => ?_) (fun ht => ?_)
    · subst ht; exact ihx g T H Q h a w μ F s
    · subst ht; exact ihy g T H Q h a w μ F s
  | block id c ih =>
    intro g T H Q h a w μ F s
    refine wp_block (wp_mono (ih g T H _ h a w μ F s) fun e a' w' hq => ?_)
    obtain ⟨ae, T', H', μ', F', hk, s', hr⟩ := hq
    cases hr with
    | normal => exact ⟨_, _, _, _, _, hk, s', .normal⟩
    | exit =>
      rename_i i
      simp only at hk
      show Exit.inBlock id _ (.exit i) a' w'
      simp only [Exit.inBlock]
      split at hk
      · rename_i hb
        rw [if_pos (Nat.eq_of_beq_eq_true hb)]
        exact ⟨_, _, _, _, _, hk, s', .normal⟩
      · rename_i hb
        rw [if_neg fun e => by subst e; simp at hb]
        exact ⟨_, _, _, _, _, hk, s', .exit⟩
    | goto => exact ⟨_, _, _, _, _, hk, s', .goto⟩
    | ret => exact ⟨_, _, _, _, _, hk, s', .ret⟩
    | panic r => exact ⟨_, _, _, _, _, hk, s', .panic r⟩
  | loop c ih =>
    intro g T H Q h a w μ F s
    obtain ⟨g', ι, S, m, ⟨i, hi⟩, h⟩ := h
    obtain ⟨μ', F', s'⟩ := s.sub hi
    refine loop_wp m (fun i a w => ∃ μ F, SimX cx nt E (ofL (S i).1) (ofH (S i).2) a w μ F) (fun i a w ⟨μ, F, s⟩ => ?_) (i := i) ⟨μ', F', s'⟩
    refine wp_mono (ih g' _ _ _ (h i) a w μ F s) fun e a' w' hq => ?_
    obtain ⟨ae, T', H', μ', F', hk, s', hr⟩ := hq
    cases hr with
    | normal =>
      obtain ⟨j, hj, hs⟩ := hk
      obtain ⟨μ2, F2, s2⟩ := s'.sub hs
      exact ⟨j, hj, μ2, F2, s2⟩
    | exit => exact ⟨_, _, _, _, _, hk, s', .exit⟩
    | goto => exact ⟨_, _, _, _, _, hk, s', .goto⟩
    | ret => exact ⟨_, _, _, _, _, hk, s', .ret⟩
    | panic r => exact ⟨_, _, _, _, _, hk, s', .panic r⟩
  | exit id => exact fun g T H Q h a w μ F s => wp_exit ⟨_, _, _, _, _, h, s, .exit⟩
  | label l => exact fun g T H Q h a w μ F s => wp_label ⟨_, _, _, _, _, h, s, .normal⟩
  | ret => exact fun g T H Q h a w μ F s => wp_ret ⟨_, _, _, _, _, h, s, .ret⟩
  | _ => intro g T H Q h; exact h.elim
end
end Go.Eng
/- A function that only computes, from what its code does. -/
namespace Go.Eng
def resE (cx : Cx) (T : TT) (H : HH) : List ResultVar → (List AV → Prop) → Prop
  | [], k => k []
  | .tmp t :: l, k => match T t with | some v => resE cx T H l fun vs => k (v :: vs) | none => False
  | .cell a t :: l, k => match T a with | some p => loadK cx t H (fun v => resE cx T H l fun vs => k (v :: vs)) p | none => False
def oneOf : List AV → AV | [v] => v | l => .tup l
/-- What the function answers at its end. -/
def endK (cx : Cx) (fn : Func) (K KP : AV → HH → Prop) : AX → TT → HH → Prop
  | .normal, T, H => resE cx T H fn.results.toList fun l => K (oneOf l) H
  | .ret, T, H => resE cx T H fn.results.toList fun l => K (oneOf l) H
  | .panic v, _, H => KP v H
  | _, _, _ => False
def argT : Nat → List AV → TT
  | _, [] => TT.emp
  | n, v :: l => (argT (n + 1) l).put n v
section
variable {cx : Cx} {w : World} {μ : Id → Option Loc} {F : Nat → Prop} {H : HH}
def rvRun (tmps : Array Value) : ResultVar → Sem Value
  | .tmp t => pure (tmps.getD t undef)
  | .cell p t => do loadVar t (← asAddr (tmps.getD p undef))
theorem resE_sound (ok : CxOK cx) (h : HRep w μ F H) (hg : GOK cx w F) {T : TT} {a : Act} (hT : TOKs w μ F T a) : ∀ (l : List ResultVar) (k : List AV → Prop), resE cx T H l k →
    ∃ avs vs, k avs ∧ All2 (Rep w μ F) avs vs ∧ (l.mapM (rvRun a.tmps)).run cx.P w = Result.ok vs w
  | [], k, h => ⟨[], [], h, .nil, rfl⟩
  | .tmp t :: l, k, hk => by
    unfold resE at hk
    split at hk
    · rename_i v hv
      obtain ⟨avs, vs, h1, h2, h3⟩ := resE_sound ok h hg hT l _ hk
      refine ⟨_, _, h1, .cons (hT t v hv) h2, ?_⟩
      simp only [List.mapM_cons, rvRun, Sem.run_bind, Sem.run_pure, Result.andThen_ok, h3]
    · exact hk.elim
  | .cell p t :: l, k, hk => by
    unfold resE at hk
    split at hk
    · rename_i v hv
      obtain ⟨x, av, h1, h2, h3⟩ := loadK_sound ok h hk (hT p v hv)
      obtain ⟨avs, vs, h4, h5, h6⟩ := resE_sound ok h hg hT l _ h2
      refine ⟨_, _, h4, .cons h3 h5, ?_⟩
      obtain ⟨y, hy⟩ : ∃ y, a.tmps.getD p undef = .pointer (some y) := by
        generalize a.tmps.getD p undef = z at h1
        unfold Instr.loadAt Instr.sureAddr at h1
        split at h1
        · exact ⟨_, rfl⟩
        · first | (simp [stuck] at h1; done) | skip
      rw [hy] at h1
      simp only [Instr.loadAt, Instr.sureAddr, Sem.run_bind, Sem.run_pure, Result.andThen_ok] at h1
      simp only [List.mapM_cons, rvRun, hy, asAddr, Sem.run_bind, Sem.run_pure, Result.andThen_ok, h1, h6]
    · exact hk.elim
theorem results_eq {fn : Func} {tmps : Array Value} {P : Program} {w : World} {vs : List Value} (h : (fn.results.toList.mapM (rvRun tmps)).run P w = .ok vs w) :
    (results fn tmps).run P w = .ok (match vs with | [v] => v | l => .tuple ⟨l⟩) w := by
  have he : results fn tmps = (do let vs ← fn.results.mapM (rvRun tmps); pure (if h : vs.size = 1 then vs[0] else .tuple vs)) := by
    unfold results
    have : ∀ (f g : ResultVar → Sem Value), (∀ x, f x = g x) → ∀ (k : Array Value → Sem Value), (fn.results.mapM f >>= k) = (fn.results.mapM g >>= k) := by
      intro f g hfg k
      rw [funext hfg]
    exact this _ _ (fun x => by cases x <;> rfl) _
  rw [he, Array.mapM_eq_mapM_toList]
  have hm : (List.toArray <$> List.mapM (rvRun tmps) fn.results.toList).run P w = .ok vs.toArray w := by
    rw [← bind_pure_comp]
    simp only [Sem.run_bind, h, Result.andThen_ok, Function.comp, Sem.run_pure]
  rw [Sem.run_bind, hm]
  simp only [Result.andThen_ok, Sem.run_pure]
  match vs with
  | [] => rfl
  | [v] => rfl
  | v :: u :: l => simp
theorem EndK_ret (ok : CxOK cx) {fn : Func} {nt : Nat} {E : Entry} {T : TT} {a : Act} {K : AV → HH → Prop} (s : SimX cx nt E T H a w μ F) (hk : resE cx T H fn.results.toList fun l => K (oneOf l) H) :
    ∃ v av, (results fn a.tmps).run cx.P w = .ok v w ∧ K av H ∧ Rep w μ F av v := by
  obtain ⟨avs, vs, h1, h2, h3⟩ := resE_sound ok s.h s.g s.t _ _ hk
  refine ⟨_, _, results_eq h3, h1, ?_⟩
  cases h2 with
  | nil => exact .tup rfl (by simp)
  | cons h h2 =>
    cases h2 with
    | nil => exact h
    | cons h' h2 =>
      have hl := (All2.cons h (All2.cons h' h2))
      exact .tup hl.length fun i hi hi' => hl.get i hi hi'
theorem argT_get : ∀ (l : List AV) (n t : Nat) (av : AV), argT n l t = some av → ∃ i, t = n + i ∧ l[i]? = some av
  | [], n, t, av, h => by cases h
  | v :: l, n, t, av, h => by
    simp only [argT] at h
    by_cases e : t = n
    · subst e; rw [TT.put_same] at h; cases h; exact ⟨0, rfl, rfl⟩
    · rw [TT.put_ne _ _ e] at h
      obtain ⟨i, rfl, hi⟩ := argT_get l (n + 1) t av h
      exact ⟨i + 1, by omega, hi⟩
/-- A function entered with these arguments. -/
theorem entry_sim {args : List AV} {vs : List Value} {nt : Nat} (h : HRep w μ F H) (hg : GOK cx w F) (ha : All2 (Rep w μ F) args vs) (hn : args.length ≤ nt) :
    SimX cx nt ⟨w, μ, F, H, []⟩ (argT 0 args) H { tmps := ⟨vs⟩ ++ Array.replicate (nt - (⟨vs⟩ : Array Value).size) undef, defers := [] } w μ F := by
  have hl := ha.length
  refine ⟨h, hg, fun t av ht => ?_, fun t av ht => ?_, ?_, rfl, ⟨rfl, rfl, rfl, Nat.le_refl _, fun _ _ _ => rfl, fun _ _ _ h => h, fun _ h => h, fun _ h => .inl h, fun _ h => .inr h⟩⟩
  · obtain ⟨i, rfl, hi⟩ := argT_get _ _ _ _ ht
    obtain ⟨hi1, rfl⟩ := List.getElem?_eq_some_iff.1 hi
    have := ha.get i hi1 (by omega)
    simp only [Nat.zero_add]
    rw [Array.getD_eq_getD_getElem?, Array.getElem?_append_left (by simp; omega)]
    simpa [show i < vs.length by omega] using this
  · obtain ⟨i, rfl, hi⟩ := argT_get _ _ _ _ ht
    obtain ⟨hi1, _⟩ := List.getElem?_eq_some_iff.1 hi
    omega
  · simp; omega
/-- A function by what its code does. -/
theorem body_sound (ok : CxOK cx) {f : FuncId} {fn : Func} {c : Code} (hf : cx.P.funcs[f]? = some fn) (hb : fn.body = some c) (hcall : ∀ (vs : Array Value) (w : World), (callFunc f vs).run cx.P w = .ok (.enter f vs) w)
    {args : List AV} {vs : List Value} {g : Nat} (hn : args.length ≤ fn.ntmps) {K KP : AV → HH → Prop} (hk : WC cx fn.ntmps g c (argT 0 args) H (endK cx fn K KP)) (h : HRep w μ F H) (hg : GOK cx w F) (ha : All2 (Rep w μ F) args vs) :
    CallsX cx.P f vs w fun e w' => ∃ o H' μ' F', (match o with | .ret v => K v H' | .pan v => KP v H') ∧ EndR w' μ' F' o e ∧ HRep w' μ' F' H' ∧ GOK cx w' F' ∧ FrB w μ F H w' μ' F' H' := by
  unfold CallsX
  rw [hcall]
  refine calls_of_wp hf hb (wp_mono (WC_sound ok c g _ _ _ hk _ _ _ _ (entry_sim h hg ha hn)) fun e a' w' hq => ?_)
  obtain ⟨ae, T', H', μ', F', hk, s, hr⟩ := hq
  cases hr with
  | normal =>
    obtain ⟨v, av, h1, h2, h3⟩ := EndK_ret ok s hk
    exact ⟨s.d, v, h1, .ret av, H', μ', F', h2, .ret h3, s.h, s.g, s.f⟩
  | ret =>
    obtain ⟨v, av, h1, h2, h3⟩ := EndK_ret ok s hk
    exact ⟨s.d, v, h1, .ret av, H', μ', F', h2, .ret h3, s.h, s.g, s.f⟩
  | panic r => exact ⟨s.d, .pan _, H', μ', F', hk, .pan r, s.h, s.g, s.f⟩
  | exit => exact hk.elim
  | goto => exact hk.elim
end
def retP (o : Out) (v : AV) (H : HH) : Prop := match o with | .ret u => Ent H v u | .pan _ => False
def panP (o : Out) (v : AV) (H : HH) : Prop := match o with | .ret _ => False | .pan u => Ent H v u
theorem All2.imp {α β : Type} {Q Q' : α → β → Prop} (hq : ∀ a b, Q a b → Q' a b) {l : List α} {m : List β} (h : All2 Q l m) : All2 Q' l m := by
  induction h with
  | nil => exact .nil
  | cons h _ ih => exact .cons (hq _ _ h) ih
theorem HRep.emp {w : World} {F : Nat → Prop} (h : ∀ b, F b → b < w.heap.size) : HRep w (fun _ => none) F HH.emp := by
  refine ⟨fun _ _ h => ?_, fun _ _ => rfl, fun _ _ _ _ _ _ _ h => ?_, fun _ _ _ _ h => ?_, h⟩ <;> simp [HH.emp] at h
/-- A function that only computes, by what its code does. -/
theorem PSpec.of_WC {cx : Cx} (ok : CxOK cx) {f : FuncId} {fn : Func} {c : Code} (hf : cx.P.funcs[f]? = some fn) (hb : fn.body = some c) (hcall : ∀ (vs : Array Value) (w : World), (callFunc f vs).run cx.P w = .ok (.enter f vs) w)
    {args : List AV} {g : Nat} (hn : args.length ≤ fn.ntmps) {o : Out} (hk : WC cx fn.ntmps g c (argT 0 args) HH.emp (endK cx fn (retP o) (panP o))) :
    PSpec cx f args o := by
  intro w F vs hF hG ha
  have h0 := HRep.emp (w := w) hF
  have ha' : All2 (Rep w (fun _ => none) F) args vs := ha.imp fun _ _ h => .frz h
  have hc := body_sound ok hf hb hcall hn hk h0 hG ha'
  have fin : ∀ (e : Ending) (w' : World), (∃ o' H' μ' F', (match o' with | .ret v => retP o v H' | .pan v => panP o v H') ∧ EndR w' μ' F' o' e ∧ HRep w' μ' F' H' ∧ GOK cx w' F' ∧ FrB w (fun _ => none) F HH.emp w' μ' F' H') → ∃ F', EndF w' F' o e ∧ FrF w F w' F' := by
    rintro e w' ⟨o', H', μ', F', h1, h2, h3, h4, h5⟩
    have nl : ∀ b, ¬ Lv (fun _ => none) HH.emp b := fun b ⟨r, row, l, h, _⟩ => by cases h
    refine ⟨fun b => F' b ∨ Lv μ' H' b, ?_, h5.os, h5.tape, h5.output, h5.size, fun b hb => h5.keep b hb (nl b), fun b hb => ?_, fun b hb => hb.elim (h3.lt b) h3.row_lt⟩
    · cases h2 with
      | ret hr =>
        cases o with
        | ret u => exact .ret (h1 _ _ _ _ h3 hr)
        | pan u => exact h1.elim
      | pan hr =>
        cases o with
        | ret u => exact h1.elim
        | pan u => exact .pan (h1 _ _ _ _ h3 hr)
    · rcases hb with hb | hb
      · exact (h5.fr' b hb).elim .inl fun h => h.elim .inr fun h => absurd h (nl b)
      · exact (h5.lv b hb).elim .inr fun h => absurd h (nl b)
  unfold CallsX at hc ⊢
  split at hc
  · exact hc.mono fun e w' h => fin e w' h
  · exact fin _ _ hc
  · exact hc.mono fun v w' h => fin _ _ h
  · exact fin _ _ hc
  · exact hc.elim
end Go.Eng

/- Eng07: an engine for the program's code, and walks of its functions (Y Z). -/
import Derived.Test.YtlcepambcoobgaaGreatDoorEng06
import Derived.Orders
/- Soundness: regions whose operations come in any order. -/
namespace Go.Eng
def updT (dst : Option Nat) (v : Option AV) (T : TT) : TT := match dst with | none => T | some d => match v with | some v => T.put d v | none => T.put d skipV
def idOf (g : Nat) (o : Oper) : Id := (g, o.dst.getD 1000000, 0)
section
variable {cx : Cx} {nt g : Nat} {ops : Array Oper}
theorem updT_ne {dst : Option Nat} {v : Option AV} {T : TT} {t : Nat} (h : dst ≠ some t) : updT dst v T t = T t := by
  unfold updT
  split
  · rfl
  · split
    · exact TT.put_ne _ _ fun e => h (by rw [e])
    · exact TT.put_ne _ _ fun e => h (by rw [e])
theorem updT_comm {a b : Option Nat} {u v : Option AV} {T : TT} (h : ∀ d, a = some d → b ≠ some d) : updT a u (updT b v T) = updT b v (updT a u T) := by
  funext t
  by_cases ha : a = some t
  · have hb : b ≠ some t := h t ha
    rw [updT_ne (dst := b) hb]
    subst ha
    unfold updT
    cases u <;> simp [TT.put_same, TT.del_same]
  · rw [updT_ne ha]
    by_cases hb : b = some t
    · subst hb
      unfold updT
      cases v <;> simp [TT.put_same, TT.del_same]
    · rw [updT_ne hb, updT_ne hb, updT_ne ha]
theorem ev_names {T T2 : TT} {o : Oper} (h : ∀ t, t ∈ namesOf ops o → T2 t = T t) : ∀ x, x ∈ o.op.operands.toList → ev cx T2 x = ev cx T x := by
  intro x hx
  cases x with
  | tmp t =>
    refine h t ?_
    unfold namesOf
    exact List.mem_append_left _ (List.mem_filterMap.2 ⟨_, hx, rfl⟩)
  | const => rfl
  | func => rfl
  | global => rfl
theorem head_names {T : TT} {o : Oper} {H H2 : HH} (h : ∀ t, t ∈ namesOf ops o → ∀ av r row, T t = some av → headId av = some r → H r = some row → H2 r = some row) :
    ∀ x, x ∈ o.op.operands.toList → ∀ av r row, ev cx T x = some av → headId av = some r → H r = some row → H2 r = some row := by
  intro x hx av r row hv hr
  cases x with
  | tmp t =>
    refine h t ?_ av r row hv hr
    unfold namesOf
    exact List.mem_append_left _ (List.mem_filterMap.2 ⟨_, hx, rfl⟩)
  | const v =>
    simp only [ev] at hv
    unfold constAV at hv
    split at hv
    · split at hv <;> cases hv <;> cases hr
    · unfold constA1 at hv
      split at hv <;> (try split at hv) <;> cases hv <;> cases hr
  | func f => simp only [ev] at hv; cases hv; cases hr
  | global g => simp only [ev] at hv; split at hv <;> cases hv; cases hr
/-- A light operation, in whatever state that shows it the same. -/
theorem W1_loc {quiet : Bool} {o : Oper} {T : TT} {H : HH} {K : TT → HH → Prop} {KP : AV → TT → HH → Prop} (hc : clsOf cx quiet o.op ≠ 3) (h : W1 cx nt g quiet ops o T H K KP) :
    ∃ (v : Option AV) (u : Option Row), (u ≠ none → H (idOf g o) = none) ∧ (clsOf cx quiet o.op ≠ 2 → u = none) ∧ K (updT o.dst v T) (putO H (idOf g o) u) ∧
      ∀ (T2 : TT) (H2 : HH) (K2 : TT → HH → Prop) (KP2 : AV → TT → HH → Prop), (∀ t, t ∈ namesOf ops o → T2 t = T t) →
        (clsOf cx quiet o.op = 0 ∨ ∀ t, t ∈ namesOf ops o → ∀ av r row, T t = some av → headId av = some r → H r = some row → H2 r = some row) →
        (u ≠ none → H2 (idOf g o) = none) → K2 (updT o.dst v T2) (putO H2 (idOf g o) u) → W1 cx nt g quiet ops o T2 H2 K2 KP2 := by
  obtain ⟨dst, op, ty, pos, af, guard⟩ := o
  simp only at hc
  have some_ : ∀ {d : Nat} {K' KP' : AV → HH → Prop}, dst = some d → opK cx quiet (g, d, 0) op T H K' KP' →
      ∃ (v : AV) (u : Option Row), (u ≠ none → H (g, d, 0) = none) ∧ (clsOf cx quiet op ≠ 2 → u = none) ∧ K' v (putO H (g, d, 0) u) ∧
      ∀ (T2 : TT) (H2 : HH) (K2 KP2 : AV → HH → Prop), (∀ t, t ∈ namesOf ops ⟨dst, op, ty, pos, af, guard⟩ → T2 t = T t) →
        (clsOf cx quiet op = 0 ∨ ∀ t, t ∈ namesOf ops ⟨dst, op, ty, pos, af, guard⟩ → ∀ av r row, T t = some av → headId av = some r → H r = some row → H2 r = some row) →
        (u ≠ none → H2 (g, d, 0) = none) → K2 v (putO H2 (g, d, 0) u) → opK cx quiet (g, d, 0) op T2 H2 K2 KP2 := by
    intro d K' KP' hd h
    obtain ⟨v, u, h1, h2, h3, h4⟩ := opK_loc hc h
    refine ⟨v, u, h1, h2, h3, fun T2 H2 K2 KP2 ht hh hn hk => ?_⟩
    exact h4 ⟨T2, H2, ev_names (ops := ops) (o := ⟨dst, op, ty, pos, af, guard⟩) ht, hh.imp id fun h => head_names (ops := ops) (o := ⟨dst, op, ty, pos, af, guard⟩) h⟩ K2 KP2 hn hk
  have none_ : ∀ {K' KP' : AV → HH → Prop}, opK cx quiet (g, 1000000, 0) op T H K' KP' →
      ∃ (v : AV) (u : Option Row), (u ≠ none → H (g, 1000000, 0) = none) ∧ (clsOf cx quiet op ≠ 2 → u = none) ∧ K' v (putO H (g, 1000000, 0) u) ∧
      ∀ (T2 : TT) (H2 : HH) (K2 KP2 : AV → HH → Prop), (∀ t, t ∈ namesOf ops ⟨dst, op, ty, pos, af, guard⟩ → T2 t = T t) →
        (clsOf cx quiet op = 0 ∨ ∀ t, t ∈ namesOf ops ⟨dst, op, ty, pos, af, guard⟩ → ∀ av r row, T t = some av → headId av = some r → H r = some row → H2 r = some row) →
        (u ≠ none → H2 (g, 1000000, 0) = none) → K2 v (putO H2 (g, 1000000, 0) u) → opK cx quiet (g, 1000000, 0) op T2 H2 K2 KP2 := by
    intro K' KP' h
    obtain ⟨v, u, h1, h2, h3, h4⟩ := opK_loc hc h
    refine ⟨v, u, h1, h2, h3, fun T2 H2 K2 KP2 ht hh hn hk => ?_⟩
    exact h4 ⟨T2, H2, ev_names (ops := ops) (o := ⟨dst, op, ty, pos, af, guard⟩) ht, hh.imp id fun h => head_names (ops := ops) (o := ⟨dst, op, ty, pos, af, guard⟩) h⟩ K2 KP2 hn hk
  unfold W1 at h
  simp only at h
  split at h
  · split at h
    · split at h
      · rename_i d hb
        obtain ⟨v, u, h1, h2, h3, h4⟩ := some_ rfl h
        refine ⟨some v, u, h1, h2, h3, fun T2 H2 K2 KP2 ht hh hn hk => ?_⟩
        unfold W1; simp only [hb]
        exact h4 _ _ _ _ ht hh hn hk
      · exact h.elim
    · obtain ⟨v, u, h1, h2, h3, h4⟩ := none_ h
      refine ⟨some v, u, h1, h2, h3, fun T2 H2 K2 KP2 ht hh hn hk => ?_⟩
      exact h4 _ _ _ _ ht hh hn hk
  · rename_i j want
    split at h
    rotate_left
    · exact h.elim
    rename_i e _ _ _ _ _ hj
    split at h
    rotate_left
    · exact h.elim
    rename_i b hb
    have hin : e ∈ namesOf ops ⟨dst, op, ty, pos, af, some (j, want)⟩ := by
      unfold namesOf
      refine List.mem_append_right _ ?_
      simp [hj]
    split at h
    · split at h
      rotate_left
      · exact h.elim
      rename_i d hd
      rw [BrW_eq] at h; unfold Br at h
      split at h
      · rename_i hbw
        obtain ⟨v, u, h1, h2, h3, h4⟩ := some_ rfl h
        refine ⟨some v, u, h1, h2, h3, fun T2 H2 K2 KP2 ht hh hn hk => ?_⟩
        unfold W1; simp only [hj, ht e hin, hb, hd, BrW_eq, Br, hbw]
        exact h4 _ _ _ _ ht hh hn hk
      · rename_i hbw
        refine ⟨none, none, fun h => absurd rfl h, fun _ => rfl, h, fun T2 H2 K2 KP2 ht hh hn hk => ?_⟩
        unfold W1; simp only [hj, ht e hin, hb, hd, BrW_eq, Br, hbw]
        exact hk
    · rw [BrW_eq] at h; unfold Br at h
      split at h
      · rename_i hbw
        obtain ⟨v, u, h1, h2, h3, h4⟩ := none_ h
        refine ⟨some v, u, h1, h2, h3, fun T2 H2 K2 KP2 ht hh hn hk => ?_⟩
        unfold W1; simp only [hj, ht e hin, hb, BrW_eq, Br, hbw]
        exact h4 _ _ _ _ ht hh hn hk
      · rename_i hbw
        refine ⟨none, none, fun h => absurd rfl h, fun _ => rfl, h, fun T2 H2 K2 KP2 ht hh hn hk => ?_⟩
        unfold W1; simp only [hj, ht e hin, hb, BrW_eq, Br, hbw]
        exact hk
/-- An operation in a state that shows it the same operands and has the same rows. -/
theorem W1_congr {quiet : Bool} {o : Oper} {T T2 : TT} {H : HH} {K : TT → HH → Prop} {KP : AV → HH → Prop} (ht : ∀ t, t ∈ namesOf ops o → T2 t = T t) (h : W1 cx nt g quiet ops o T H K (fun v _ H' => KP v H')) :
    W1 cx nt g quiet ops o T2 H (fun T' H' => ∃ v, T' = updT o.dst v T2 ∧ K (updT o.dst v T) H') (fun v _ H' => KP v H') := by
  obtain ⟨dst, op, ty, pos, af, guard⟩ := o
  have he := ev_names (cx := cx) ht
  unfold W1 at h ⊢
  simp only at h he ⊢
  have fin : ∀ {id : Id} {f : AV → TT}, (∀ v, f v = updT dst (some v) T) → opK cx quiet id op T H (fun v H' => K (f v) H') (fun v H' => KP v H') → ∀ {f2 : AV → TT}, (∀ v, f2 v = updT dst (some v) T2) →
      opK cx quiet id op T2 H (fun v H' => ∃ u, f2 v = updT dst u T2 ∧ K (updT dst u T) H') (fun v H' => KP v H') := by
    intro id f hf h f2 hf2
    rw [opK_congr he]
    exact opK_mono (fun v H' hk => ⟨some v, hf2 v, by rw [← hf]; exact hk⟩) (fun _ _ h => h) h
  cases guard with
  | none =>
    cases dst with
    | none => exact fin (fun v => rfl) h (fun v => rfl)
    | some d =>
      simp only at h ⊢
      split at h
      · rename_i hd
        try simp only [hd]
        exact fin (fun v => rfl) h (fun v => rfl)
      · exact h.elim
  | some gw =>
    obtain ⟨j, want⟩ := gw
    simp only at h ⊢
    split at h
    rotate_left
    · exact h.elim
    rename_i e _ _ _ _ _ hj
    split at h
    rotate_left
    · exact h.elim
    rename_i b hb
    have hin : e ∈ namesOf ops ⟨dst, op, ty, pos, af, some (j, want)⟩ := by
      unfold namesOf
      refine List.mem_append_right _ ?_
      simp [hj]
    simp only [ht e hin, hb]
    cases dst with
    | none =>
      simp only at h ⊢
      rw [BrW_eq] at h ⊢; unfold Br at h ⊢
      split at h
      · rename_i hbw
        try simp only [hbw]
        exact fin (fun v => rfl) h (fun v => rfl)
      · rename_i hbw
        try simp only [hbw]
        exact ⟨none, rfl, h⟩
    | some d =>
      simp only at h ⊢
      split at h
      rotate_left
      · exact h.elim
      rename_i hd
      try simp only [hd]
      rw [BrW_eq] at h ⊢; unfold Br at h ⊢
      split at h
      · rename_i hbw
        try simp only [hbw]
        exact fin (fun v => rfl) h (fun v => rfl)
      · rename_i hbw
        try simp only [hbw]
        exact ⟨none, rfl, h⟩
end
end Go.Eng
/- Soundness: regions whose operations come in any order, put together. -/
namespace Go.Eng
section
variable {cx : Cx} {nt g : Nat} {ops : Array Oper} {q : Nat → Bool}
theorem W1_mono {quiet : Bool} {o : Oper} {T : TT} {H : HH} {K K' : TT → HH → Prop} {KP : AV → TT → HH → Prop} (hk : ∀ T H, K T H → K' T H) (h : W1 cx nt g quiet ops o T H K KP) : W1 cx nt g quiet ops o T H K' KP := by
  obtain ⟨dst, op, ty, pos, af, guard⟩ := o
  unfold W1 at *
  have hm : ∀ {id : Id} {f : AV → TT}, opK cx quiet id op T H (fun v H' => K (f v) H') (fun v H' => KP v T H') → opK cx quiet id op T H (fun v H' => K' (f v) H') (fun v H' => KP v T H') := fun h => opK_mono (fun _ _ h => hk _ _ h) (fun _ _ h => h) h
  cases guard with
  | none =>
    cases dst with
    | none => exact hm h
    | some d =>
      simp only at h ⊢
      generalize Nat.blt d nt = x at *
      cases x
      · exact h
      · exact hm h
  | some gw =>
    obtain ⟨j, want⟩ := gw
    simp only at h ⊢
    generalize ops[j]? = y at *
    cases y with
    | none => exact h
    | some p =>
      obtain ⟨pd, _, _, _, _, _⟩ := p
      cases pd with
      | none => exact h
      | some e =>
        simp only at h ⊢
        generalize T e = z at *
        split at h
        rotate_left
        · exact h.elim
        rename_i b _
        cases dst with
        | none =>
          simp only [BrW_eq, Br] at h ⊢
          generalize (b == want) = x at *
          cases x
          · exact hk _ _ h
          · exact hm h
        | some d =>
          simp only [BrW_eq, Br] at h ⊢
          generalize Nat.blt d nt = x at *
          cases x
          · exact h
          · simp only at h ⊢
            generalize (b == want) = x at *
            cases x
            · exact hk _ _ h
            · exact hm h
def Passes (cx : Cx) (q : Nat → Bool) (ops : Array Oper) (j i : Nat) : Prop :=
  ∃ a b, ops[j]? = some a ∧ ops[i]? = some b ∧ mayPass (clsO cx (q j) ops a) (clsO cx (q i) ops b) = true ∧ tmpMeet ops a b = false
theorem tmpMeet_spec {a b : Oper} (h : tmpMeet ops a b = false) : (∀ d, a.dst = some d → d ∉ namesOf ops b ∧ b.dst ≠ some d) ∧ (∀ d, b.dst = some d → d ∉ namesOf ops a) := by
  unfold tmpMeet at h
  rw [Bool.or_eq_false_iff] at h
  obtain ⟨h1, h2⟩ := h
  refine ⟨fun d hd => ?_, fun d hd => ?_⟩
  · rw [hd] at h1
    simp only [Bool.or_eq_false_iff] at h1
    refine ⟨fun h => by simp [h] at h1, fun h => by simp [h] at h1⟩
  · rw [hd] at h2
    simp only at h2
    exact fun h => by simp [h] at h2
theorem mayPass_spec {a b : Nat} (h : mayPass a b = true) : a = 0 ∨ ((a = 1 ∨ a = 2 ∨ a = 6) ∧ (b = 0 ∨ b = 1 ∨ b = 2 ∨ b = 6)) ∨ ((a = 6 ∨ a = 4) ∧ b = 5) := by
  unfold mayPass at h
  split at h <;> first | exact absurd h (by decide) | simp
theorem clsO_light {quiet : Bool} {o : Oper} (h : clsO cx quiet ops o = 0 ∨ clsO cx quiet ops o = 1 ∨ clsO cx quiet ops o = 2 ∨ clsO cx quiet ops o = 6) : clsOf cx quiet o.op ≠ 3 ∧ (clsO cx quiet ops o = 0 → clsOf cx quiet o.op ≠ 2) := by
  obtain ⟨dst, op, ty, pos, af, guard⟩ := o
  unfold clsO at h ⊢
  cases quiet with
  | true => exact ⟨by simp only at h ⊢; omega, fun h => by simp only at h ⊢; omega⟩
  | false =>
    simp only at h ⊢
    cases op with
    | store t a v =>
      exfalso
      simp only at h
      repeat' split at h
      all_goals simp at h
    | load t a => exact ⟨by simp [clsOf], fun h => by simp [clsOf]⟩
    | slice => exact ⟨by simp [clsOf], fun h => by simp at h⟩
    | indexAddr => exact ⟨by simp [clsOf], fun h => by simp at h⟩
    | _ => exact ⟨by simp only at h; omega, fun h => by simp only at h; omega⟩
theorem putO_id {H : HH} {id : Id} {u : Option Row} (h : u ≠ none) : putO H id u id ≠ none := by
  cases u with
  | none => exact absurd rfl h
  | some r => simp [putO, HH.put_same]
theorem putO_ne {H : HH} {id r : Id} {u : Option Row} (h : r ≠ id) : putO H id u r = H r := by
  cases u with
  | none => rfl
  | some x => exact HH.put_ne _ _ h
theorem putO_grow {H : HH} {id r : Id} {u : Option Row} {row : Row} (hf : u ≠ none → H id = none) (h : H r = some row) : putO H id u r = some row := by
  cases u with
  | none => exact h
  | some x =>
    have := hf (by simp)
    rw [putO_ne fun e => by rw [e, this] at h; cases h]
    exact h
theorem putO_comm {H : HH} {a b : Id} {u v : Option Row} (h : u ≠ none → v ≠ none → a ≠ b) : putO (putO H a u) b v = putO (putO H b v) a u := by
  cases u with
  | none => rfl
  | some x =>
    cases v with
    | none => rfl
    | some y =>
      have := h (by simp) (by simp)
      funext r
      show (HH.put (HH.put H a x) b y) r = (HH.put (HH.put H b y) a x) r
      by_cases h1 : r = a
      · subst h1; rw [HH.put_ne _ _ this, HH.put_same, HH.put_same]
      · by_cases h2 : r = b
        · subst h2; rw [HH.put_same, HH.put_ne _ _ h1, HH.put_same]
        · rw [HH.put_ne _ _ h2, HH.put_ne _ _ h1, HH.put_ne _ _ h1, HH.put_ne _ _ h2]
theorem updT_names {dst : Option Nat} {v : Option AV} {T : TT} {o : Oper} (h : ∀ d, dst = some d → d ∉ namesOf ops o) : ∀ t, t ∈ namesOf ops o → updT dst v T t = T t :=
  fun t ht => updT_ne fun e => h t e ht
theorem chkOwn_re {T T2 : TT} : ∀ {l : List Nat}, (∀ t, t ∈ l → T2 t = T t) → chkOwn g T2 l → chkOwn g T l
  | [], _, _ => trivial
  | t :: l, ht, h => by
    simp only [chkOwn] at h ⊢
    rw [ht t (by simp)] at h
    exact ⟨h.1, chkOwn_re (fun t h => ht t (by simp [h])) h.2⟩
theorem chkFrz_re {T T2 : TT} : ∀ {l : List Nat}, (∀ t, t ∈ l → T2 t = T t) → chkFrz T2 l → chkFrz T l
  | [], _, _ => trivial
  | t :: l, ht, h => by
    simp only [chkFrz] at h ⊢
    rw [ht t (by simp)] at h
    exact ⟨h.1, chkFrz_re (fun t h => ht t (by simp [h])) h.2⟩
theorem chkFrz_at {T : TT} : ∀ {l : List Nat}, chkFrz T l → ∀ t, t ∈ l → ∀ av r, T t = some av → headId av = some r → False
  | t :: l, h, t', ht', av, r, h1, h2 => by
    simp only [chkFrz] at h
    rcases List.mem_cons.1 ht' with rfl | ht'
    · have := h.1
      rw [h1] at this
      simp only [h2] at this
    · exact chkFrz_at h.2 t' ht' av r h1 h2
theorem chkOwn_at {T : TT} : ∀ {l : List Nat}, chkOwn g T l → ∀ t, t ∈ l → ∀ av r, T t = some av → headId av = some r → r.1 = g
  | t :: l, h, t', ht', av, r, h1, h2 => by
    simp only [chkOwn] at h
    rcases List.mem_cons.1 ht' with rfl | ht'
    · have := h.1
      rw [h1] at this
      simp only [h2] at this
      exact Nat.eq_of_beq_eq_true this
    · exact chkOwn_at h.2 t' ht' av r h1 h2
theorem st_name {t : TypeId} {p : Nat} {v : Operand} {dst : Option Nat} {ty : TypeId} {pos : String} {af : Array Edge} {gd : Option (Nat × Bool)} : p ∈ namesOf ops ⟨dst, .store t (.tmp p) v, ty, pos, af, gd⟩ := by
  unfold namesOf
  exact List.mem_append_left _ (List.mem_filterMap.2 ⟨.tmp p, by simp [Op.operands], rfl⟩)
theorem chkO_re {o : Oper} {T T2 : TT} {X X2 : Prop} (ht : ∀ t, t ∈ namesOf ops o → T2 t = T t) (h : chkO g ops o T2 X2) (hx : X) : chkO g ops o T X := by
  obtain ⟨dst, op, ty, pos, af, guard⟩ := o
  unfold chkO at h ⊢
  cases op with
  | store t a v =>
    cases a with
    | tmp p =>
      simp only at h ⊢
      rw [← ht p st_name]
      exact ⟨h.1, hx⟩
    | _ => exact hx
  | load t a =>
    cases a with
    | tmp p =>
      simp only at h ⊢
      generalize ownSt ops p = b at *
      cases b with
      | true => exact ⟨chkOwn_re ht h.1, hx⟩
      | false => exact ⟨chkFrz_re ht h.1, hx⟩
    | _ => exact ⟨chkOwn_re ht h.1, hx⟩
  | slice => exact ⟨chkOwn_re ht h.1, hx⟩
  | indexAddr => exact ⟨chkOwn_re ht h.1, hx⟩
  | _ => exact hx
theorem W1c_of {quiet : Bool} {o : Oper} {T : TT} {H : HH} {K : TT → HH → Prop} {KP : AV → TT → HH → Prop} (h : W1c cx nt g quiet ops o T H K KP) : W1 cx nt g quiet ops o T H K KP := by
  cases quiet with
  | true => exact h
  | false =>
    obtain ⟨dst, op, ty, pos, af, guard⟩ := o
    simp only [W1c, chkO] at h
    cases op with
    | store t a v =>
      cases a with
      | tmp p => exact h.2
      | _ => exact h
    | load t a =>
      cases a with
      | tmp p =>
        simp only at h
        generalize ownSt ops p = b at *
        cases b with
        | true => exact h.2
        | false => exact h.2
      | _ => exact h.2
    | slice => exact h.2
    | indexAddr => exact h.2
    | _ => exact h
theorem W1c_re {quiet : Bool} {o : Oper} {T T2 : TT} {H H2 : HH} {K K2 : TT → HH → Prop} {KP KP2 : AV → TT → HH → Prop} (h : W1c cx nt g quiet ops o T2 H2 K2 KP2) (ht : ∀ t, t ∈ namesOf ops o → T2 t = T t) (hw : W1 cx nt g quiet ops o T H K KP) : W1c cx nt g quiet ops o T H K KP := by
  cases quiet with
  | true => exact hw
  | false =>
    unfold W1c at h ⊢
    exact chkO_re ht h hw
theorem det_row (es : List (List AV)) (vs : List AV) (i j : Nat) : Det (ι := Unit) Any (fun K : List (List AV) → Prop => okCells vs <| nthK es i fun e => updN j vs e fun e' => match es with | [_] => K [e'] | es => K (es.set i e')) (fun _ K => okCells vs <| nthK es i fun e => updN j vs e fun e' => match es with | [_] => K [e'] | es => K (es.set i e')) := by
  refine det_okCells ((det_nthK _ _).bind fun e _ => (det_updN _ _ _).bind fun e' _ => ?_) _
  split <;> exact .pure _
/-- A marked store, in whatever state that shows it the same row. -/
theorem W1_st {quiet : Bool} {o : Oper} {T : TT} {H : HH} {K : TT → HH → Prop} {KP : AV → TT → HH → Prop} (hc : clsO cx quiet ops o = 4 ∨ clsO cx quiet ops o = 5) (h : W1c cx nt g quiet ops o T H K KP) :
    ∃ (r : Id) (row row' : Row), Nat.beq r.1 g = Nat.beq (clsO cx quiet ops o) 4 ∧ H r = some row ∧ K T (H.put r row') ∧
      ∀ (T2 : TT) (H2 : HH) (K2 : TT → HH → Prop) (KP2 : AV → TT → HH → Prop), (∀ t, t ∈ namesOf ops o → T2 t = T t) → H2 r = some row → K2 T2 (H2.put r row') → W1 cx nt g quiet ops o T2 H2 K2 KP2 := by
  obtain ⟨dst, op, ty, pos, af, guard⟩ := o
  have hw := W1c_of h
  cases quiet with
  | true =>
    exfalso
    unfold clsO at hc
    simp only at hc
    unfold clsOf at hc
    repeat' split at hc
    all_goals simp at hc
  | false =>
  cases op with
  | store t a v =>
    cases a with
    | tmp p =>
      cases guard with
      | some _ => simp [clsO] at hc
      | none =>
      cases dst with
      | some _ => simp [clsO] at hc
      | none =>
      have hv : ∀ {T2 : TT}, (∀ t', t' ∈ namesOf ops ⟨none, .store t (.tmp p) v, ty, pos, af, none⟩ → T2 t' = T t') → ev cx T2 v = ev cx T v := fun ht => ev_names ht v (by simp [Op.operands])
      simp only [W1c, chkO] at h
      have hck := h.1
      split at hck
      rotate_left
      · exact hck.elim
      rename_i r i j hp
      have hcl : Nat.beq r.1 g = Nat.beq (clsO cx false ops ⟨none, .store t (.tmp p) v, ty, pos, af, none⟩) 4 := by
        rw [hck]
        unfold clsO
        simp only
        cases ownSt ops p <;> rfl
      unfold W1 at hw
      simp only [opK, withE, ev, hp] at hw
      split at hw
      rotate_left
      · exact hw.elim
      rename_i vv hvv
      split at hw
      rotate_left
      · exact hw.elim
      rename_i hty
      split at hw
      rotate_left
      · exact hw.elim
      rename_i hlen
      unfold storeK at hw
      simp only at hw
      split at hw
      rotate_left
      · exact hw.elim
      rename_i sz bs es hr
      obtain ⟨es', _, h1, h2⟩ := det_row es (cellsOf vv) i j (fun es' => K T (H.put r (.cells sz bs es'))) hw
      refine ⟨r, _, .cells sz bs es', hcl, hr, h1, fun T2 H2 K2 KP2 ht hr2 hk => ?_⟩
      unfold W1
      have hpp : ev cx T2 (.tmp p) = some (.ptr r i j) := (ht p st_name).trans hp
      have hvv2 : ev cx T2 v = some vv := (hv ht).trans hvv
      simp only [opK, withE, hvv2, hpp, hty, hlen, storeK, hr2]
      exact h2 () (fun es' => K2 T2 (H2.put r (.cells sz bs es'))) hk
    | _ => simp [clsO] at hc
  | load t a =>
    exfalso
    simp only [clsO] at hc
    repeat' split at hc
    all_goals simp at hc
  | _ =>
    exfalso
    simp only [clsO] at hc
    first | (simp at hc; done) | (simp only [clsOf] at hc; repeat' split at hc) <;> simp at hc
theorem clsO_zero {quiet : Bool} {o : Oper} {T : TT} {H : HH} {K : TT → HH → Prop} {KP : AV → TT → HH → Prop} (hc : clsO cx quiet ops o = 0) (h : W1c cx nt g quiet ops o T H K KP) :
    clsOf cx quiet o.op = 0 ∨ ∀ t, t ∈ namesOf ops o → ∀ av r, T t = some av → headId av = some r → False := by
  cases quiet with
  | true => exact .inl hc
  | false =>
    obtain ⟨dst, op, ty, pos, af, guard⟩ := o
    simp only [W1c, chkO] at h
    cases op with
    | load t a =>
      cases a with
      | tmp p =>
        simp only [clsO] at hc
        try simp only at h
        generalize ownSt ops p = b at *
        cases b with
        | true => cases hc
        | false => exact .inr (chkFrz_at h.1)
      | _ => cases hc
    | store t a v =>
      exfalso
      simp only [clsO] at hc
      repeat' split at hc
      all_goals simp at hc
    | slice => cases hc
    | indexAddr => cases hc
    | _ => exact .inl hc
/-- An operation that may come next is taken first. -/
theorem pull {i : Nat} {oi : Oper} (hi : ops[i]? = some oi) {K : TT → HH → Prop} {KP : AV → HH → Prop} {l2 : List Nat} : ∀ (l1 : List Nat) (T : TT) (H : HH), WL cx nt g q ops (l1 ++ i :: l2) T H K KP → (∀ j, j ∈ l1 → Passes cx q ops j i) →
    (∀ t, t ∈ namesOf ops oi → ∀ av r, T t = some av → headId av = some r → H r ≠ none) → W1c cx nt g (q i) ops oi T H (fun T' H' => WL cx nt g q ops (l1 ++ l2) T' H' K KP) (fun v _ H' => KP v H')
  | [], T, H, h, _, _ => by
    simp only [List.nil_append, WL, hi] at h
    exact h
  | j :: l1, T, H, h, hp, hs => by
    obtain ⟨oj, oi', hj, hi', hm, ht⟩ := hp j (by simp)
    obtain rfl := Option.some.inj (hi'.symm.trans hi)
    obtain ⟨t1, t2⟩ := tmpMeet_spec ht
    simp only [List.cons_append, WL, hj] at h
    have hms := mayPass_spec hm
    by_cases h45 : clsO cx (q j) ops oj = 4
    · -- a store into a block of its own, and one into another
      have h5 : clsO cx (q i) ops oi' = 5 := by
        rcases hms with h | h | h
        · omega
        · omega
        · exact h.2
      obtain ⟨r1, row1, row1', g1, e1, k1, rep1⟩ := W1_st (.inl h45) h
      rw [h45] at g1
      have hs1 : ∀ t, t ∈ namesOf ops oi' → ∀ av r, T t = some av → headId av = some r → (H.put r1 row1') r ≠ none := by
        intro t ht' av r h1 h2
        by_cases e : r = r1
        · subst e; rw [HH.put_same]; simp
        · rw [HH.put_ne _ _ e]; exact hs t ht' av r h1 h2
      have ih := pull hi l1 _ _ k1 (fun k hk => hp k (by simp [hk])) hs1
      obtain ⟨r2, row2, row2', g2, e2, k2, rep2⟩ := W1_st (.inr h5) ih
      rw [h5] at g2
      have hne : r1 ≠ r2 := by
        intro e
        rw [e, g2] at g1
        cases g1
      rw [HH.put_ne _ _ hne.symm] at e2
      refine W1c_re ih (fun _ _ => rfl) (rep2 _ _ _ _ (fun _ _ => rfl) e2 ?_)
      simp only [List.cons_append, WL, hj]
      refine W1c_re h (fun _ _ => rfl) (rep1 _ _ _ _ (fun _ _ => rfl) (by rw [HH.put_ne _ _ hne]; exact e1) ?_)
      have : (H.put r2 row2').put r1 row1' = (H.put r1 row1').put r2 row2' := by
        funext r
        by_cases h1 : r = r1
        · subst h1; rw [HH.put_same, HH.put_ne _ _ hne, HH.put_same]
        · by_cases h2 : r = r2
          · subst h2; rw [HH.put_same, HH.put_ne _ _ h1, HH.put_same]
          · rw [HH.put_ne _ _ h1, HH.put_ne _ _ h2, HH.put_ne _ _ h2, HH.put_ne _ _ h1]
      rw [this]
      exact k2
    have hlj : clsOf cx (q j) oj.op ≠ 3 ∧ (clsO cx (q j) ops oj = 0 → clsOf cx (q j) oj.op ≠ 2) := clsO_light (by omega)
    have hcj := hlj.1
    obtain ⟨v, u, a1, a2, a3, a4⟩ := W1_loc hcj (W1c_of h)
    have hT1 : ∀ t, t ∈ namesOf ops oi' → updT oj.dst v T t = T t := updT_names fun d hd => (t1 d hd).1
    have hs1 : ∀ t, t ∈ namesOf ops oi' → ∀ av r, updT oj.dst v T t = some av → headId av = some r → putO H (idOf g oj) u r ≠ none := by
      intro t ht' av r h1 h2
      rw [hT1 t ht'] at h1
      have := hs t ht' av r h1 h2
      cases hr : H r with
      | none => exact absurd hr this
      | some row => rw [putO_grow a1 hr]; simp
    have ih := pull hi l1 _ _ a3 (fun k hk => hp k (by simp [hk])) hs1
    by_cases h0' : clsO cx (q j) ops oj = 0
    · obtain rfl := a2 (hlj.2 h0')
      have h0 := clsO_zero h0' h
      have := W1_congr (T2 := T) (fun t ht => (hT1 t ht).symm) (W1c_of ih)
      refine W1c_re ih hT1 (W1_mono (fun T' H' hh => ?_) this)
      obtain ⟨x, rfl, hh⟩ := hh
      simp only [List.cons_append, WL, hj]
      have hTj : ∀ t, t ∈ namesOf ops oj → updT oi'.dst x T t = T t := updT_names fun d hd => t2 d hd
      refine W1c_re h (fun t ht => (hTj t ht).symm) (a4 _ _ _ _ hTj (h0.imp id fun h0 t ht av r _ h1 h2 _ => (h0 t ht av r h1 h2).elim) (fun h => absurd rfl h) ?_)
      rw [updT_comm fun d hd e => (t1 d hd).2 e]
      exact hh
    by_cases h5 : clsO cx (q i) ops oi' = 5
    · -- what reads rows of its own, and a store into another
      have h6 : clsO cx (q j) ops oj = 6 := by omega
      obtain ⟨r2, row2, row2', g2, e2, k2, rep2⟩ := W1_st (.inr h5) ih
      rw [h5] at g2
      have hng : r2.1 ≠ g := fun e => by rw [e] at g2; simp at g2
      have hid : r2 ≠ idOf g oj := fun e => hng (by rw [e]; rfl)
      rw [putO_ne hid] at e2
      have hown : ∀ t, t ∈ namesOf ops oj → ∀ av r, T t = some av → headId av = some r → r.1 = g := by
        have hq : q j = false := by
          cases hq : q j with
          | false => rfl
          | true =>
            exfalso
            rw [hq] at h6
            unfold clsO at h6
            simp only at h6
            unfold clsOf at h6
            repeat' split at h6
            all_goals simp at h6
        rw [hq] at h h6
        obtain ⟨dst, op, ty, pos, af, guard⟩ := oj
        simp only [W1c, chkO] at h
        cases op with
        | load t a =>
          cases a with
          | tmp p =>
            simp only [clsO] at h6
            try simp only at h
            generalize ownSt ops p = b at *
            cases b with
            | true => exact chkOwn_at h.1
            | false => cases h6
          | _ => exact chkOwn_at h.1
        | slice => exact chkOwn_at h.1
        | indexAddr => exact chkOwn_at h.1
        | store t a v =>
          exfalso
          simp only [clsO] at h6
          repeat' split at h6
          all_goals simp at h6
        | _ =>
          exfalso
          simp only [clsO] at h6
          first | (simp at h6; done) | (simp only [clsOf] at h6; repeat' split at h6) <;> simp at h6
      refine W1c_re ih hT1 (rep2 _ _ _ _ (fun t ht => (hT1 t ht).symm) e2 ?_)
      simp only [List.cons_append, WL, hj]
      refine W1c_re h (fun _ _ => rfl) (a4 _ _ _ _ (fun _ _ => rfl) (.inr fun t ht' av r row h1 h2 h3 => ?_) (fun hu => ?_) ?_)
      · rw [HH.put_ne _ _ (show r ≠ r2 from fun e => hng (by rw [← e]; exact hown t ht' av r h1 h2))]; exact h3
      · rw [HH.put_ne _ _ hid.symm]; exact a1 hu
      · have : putO (H.put r2 row2') (idOf g oj) u = (putO H (idOf g oj) u).put r2 row2' := by
          have := @putO_comm H r2 (idOf g oj) (some row2') u (fun _ _ => hid)
          exact this
        rw [this]
        exact k2
    have hli : clsOf cx (q i) oi'.op ≠ 3 := (clsO_light (ops := ops) (o := oi') (quiet := q i) (cx := cx) (by omega)).1
    obtain ⟨x, y, b1, b2, b3, b4⟩ := W1_loc hli (W1c_of ih)
    have hne : u ≠ none → y ≠ none → idOf g oj ≠ idOf g oi' := by
      intro hu hy e
      have := b1 hy
      rw [← e] at this
      exact putO_id hu this
    have hfr : y ≠ none → H (idOf g oi') = none := by
      intro hy
      have := b1 hy
      cases hr : H (idOf g oi') with
      | none => rfl
      | some row => rw [putO_grow a1 hr] at this; cases this
    refine W1c_re ih hT1 (b4 T H _ _ (fun t ht => (hT1 t ht).symm) (.inr fun t ht' av r row h1 h2 h3 => ?_) hfr ?_)
    · rw [hT1 t ht'] at h1
      cases hr : H r with
      | none => exact absurd hr (hs t ht' av r h1 h2)
      | some row' => rw [putO_grow a1 hr] at h3; exact h3
    · simp only [List.cons_append, WL, hj]
      have hTj : ∀ t, t ∈ namesOf ops oj → updT oi'.dst x T t = T t := updT_names fun d hd => t2 d hd
      refine W1c_re h (fun t ht => (hTj t ht).symm) (a4 _ _ _ _ hTj (.inr fun t ht' av r row h1 h2 h3 => putO_grow hfr h3) (fun hu => ?_) ?_)
      · by_cases hy : y = none
        · subst hy; exact a1 hu
        · rw [putO_ne (hne hu hy)]; exact a1 hu
      · rw [updT_comm fun d hd e => (t1 d hd).2 e, putO_comm fun h1 h2 => (hne h2 h1).symm]
        exact b3
/-- What stands ahead of an operation by hard edges. -/
inductive Reach (ops : Array Oper) : Nat → Nat → Prop
  | one {i o e} : ops[i]? = some o → e ∈ o.after.toList → hard e = true → Reach ops i e.on
  | step {i o e j} : ops[i]? = some o → e ∈ o.after.toList → hard e = true → Reach ops e.on j → Reach ops i j
theorem ahT_reach : ∀ (l : List Oper) (acc : List (List Nat)), (∀ k, l[k]? = ops[acc.length + k]?) → (∀ i j, j ∈ acc.getD i [] → Reach ops i j) → ∀ i j, j ∈ (ahT l acc).getD i [] → Reach ops i j
  | [], acc, _, h => h
  | o :: l, acc, hl, h => by
    simp only [ahT]
    refine ahT_reach l _ (fun k => ?_) fun i j hj => ?_
    · have := hl (k + 1)
      simpa [Nat.add_assoc, Nat.add_comm 1 k] using this
    · by_cases hi : i < acc.length
      · rw [List.getD_eq_getElem?_getD, List.getElem?_append_left hi, ← List.getD_eq_getElem?_getD] at hj
        exact h i j hj
      · by_cases he : i = acc.length
        · subst he
          have ho : ops[acc.length]? = some o := by have := hl 0; simpa using this.symm
          simp only [List.getD_eq_getElem?_getD, List.getElem?_concat_length, Option.getD_some, List.mem_flatMap, List.mem_filter] at hj
          obtain ⟨e, ⟨he, hh⟩, hj⟩ := hj
          rcases List.mem_cons.1 hj with rfl | hj
          · exact .one ho he hh
          · exact .step ho he hh (h _ _ (by rw [List.getD_eq_getElem?_getD]; exact hj))
        · rw [List.getD_eq_getElem?_getD, List.getElem?_eq_none (by simp; omega)] at hj
          simp at hj
def HardOn (ops : Array Oper) (i j : Nat) : Prop := ∃ o e, ops[i]? = some o ∧ e ∈ o.after.toList ∧ hard e = true ∧ e.on = j
structure Good (cx : Cx) (q : Nat → Bool) (ops : Array Oper) (l : List Nat) : Prop where
  pass : l.Pairwise fun j i => Reach ops i j ∨ Passes cx q ops j i
  hrd : l.Pairwise fun j i => ¬ HardOn ops j i
  self : ∀ i, i ∈ l → ¬ HardOn ops i i
  nd : l.Nodup
theorem Good.sub {l l' : List Nat} (h : Good cx q ops l) (s : l'.Sublist l) : Good cx q ops l' :=
  ⟨h.pass.sublist s, h.hrd.sublist s, fun i hi => h.self i (s.subset hi), h.nd.sublist s⟩
theorem orderOk_go {ah : List (List Nat)} (hah : ∀ i j, j ∈ ah.getD i [] → Reach ops i j) : ∀ (l seen : List Nat), orderOk.go cx q ops ah seen l = true →
    Good cx q ops l ∧ ∀ i, i ∈ l → i ∉ seen ∧ ((∃ o, ops[i]? = some o) ∧ ∀ j, HardOn ops i j → j ∈ seen ∨ j ∈ l) ∧ ∀ j, j ∈ seen → Reach ops i j ∨ Passes cx q ops j i
  | [], seen, _ => ⟨⟨.nil, .nil, by simp, .nil⟩, by simp⟩
  | i :: l, seen, h => by
    simp only [orderOk.go, Bool.and_eq_true] at h
    obtain ⟨⟨h0, h1⟩, h2⟩ := h
    obtain ⟨ih, ihs⟩ := orderOk_go hah l (i :: seen) h2
    have hns : i ∉ seen := by simpa using h0
    split at h1
    · cases h1
    rename_i b hb
    rw [Bool.and_eq_true] at h1
    obtain ⟨h3, h4⟩ := h1
    have f1 : ∀ k, HardOn ops i k → k ∈ seen := by
      rintro k ⟨o, e, ho, he, hh, rfl⟩
      rw [hb] at ho; cases ho
      have := List.all_eq_true.1 h3 e he
      simpa [hh] using this
    have f2 : ∀ j, j ∈ seen → Reach ops i j ∨ Passes cx q ops j i := by
      intro j hj
      have := List.all_eq_true.1 h4 j hj
      rw [Bool.or_eq_true] at this
      rcases this with h | h
      · exact .inl (hah i j (by simpa using h))
      · right
        split at h
        · cases h
        · rename_i a ha
          rw [Bool.and_eq_true] at h
          exact ⟨a, b, ha, hb, h.1, by simpa using h.2⟩
    have f3 : ∀ k, k ∈ l → k ∉ seen ∧ k ≠ i := fun k hk => by
      have := (ihs k hk).1
      simp only [List.mem_cons, not_or] at this
      exact ⟨this.2, this.1⟩
    refine ⟨⟨List.pairwise_cons.2 ⟨fun k hk => (ihs k hk).2.2 i (by simp), ih.pass⟩, List.pairwise_cons.2 ⟨fun k hk hh => (f3 k hk).1 (f1 k hh), ih.hrd⟩, fun k hk => ?_, List.nodup_cons.2 ⟨fun hi => (f3 i hi).2 rfl, ih.nd⟩⟩, fun k hk => ?_⟩
    · rcases List.mem_cons.1 hk with rfl | hk
      · exact fun hh => hns (f1 _ hh)
      · exact ih.self k hk
    · rcases List.mem_cons.1 hk with rfl | hk
      · exact ⟨hns, ⟨⟨b, hb⟩, fun j hj => .inl (f1 j hj)⟩, f2⟩
      · exact ⟨(f3 k hk).1, ⟨(ihs k hk).2.1.1, fun j hj => by
          have := (ihs k hk).2.1.2 j hj
          simp only [List.mem_cons] at this ⊢
          rcases this with (h | h) | h
          · exact .inr (.inl h)
          · exact .inl h
          · exact .inr (.inr h)⟩, fun j hj => (ihs k hk).2.2 j (by simp [hj])⟩
theorem binds_any (e : Edge) : Region.binds .any e = hard e := by
  obtain ⟨on, gr⟩ := e
  cases gr <;> rfl
theorem inScope {E : Entry} {T : TT} {H : HH} {a : Act} {w : World} {μ : Id → Option Loc} {F : Nat → Prop} (s : SimX cx nt E T H a w μ F) {t : Nat} {av : AV} {r : Id} (h1 : T t = some av) (h2 : headId av = some r) : H r ≠ none := by
  intro hn
  have := s.h.dom r hn
  have hr := s.t t av h1
  generalize a.tmps.getD t undef = x at hr
  cases av <;> simp only [headId] at h2 <;> cases h2
  · cases hr with
    | frz h => cases h
    | row0 h => rw [this] at h; cases h
    | row h => rw [this] at h; cases h
  · cases hr with
    | frz h => cases h
    | ptr h => rw [this] at h; cases h
  · cases hr with
    | frz h => cases h
    | mref h => rw [this] at h; cases h
variable {E : Entry} {Q : Exit → Act → World → Prop} {K : TT → HH → Prop}
theorem SimX.emp {T : TT} {H : HH} {a : Act} {w : World} {μ : Id → Option Loc} {F : Nat → Prop} (s : SimX cx nt E T H a w μ F) : SimX cx nt E TT.emp H a w μ F := ⟨s.h, s.g, fun _ _ h => (by cases h), fun _ _ h => (by cases h), s.n, s.d, s.f⟩
theorem WL_sound (ok : CxOK cx) {KP : AV → HH → Prop} (hn : ∀ T' H' a' w' μ' F', K T' H' → SimX cx nt E T' H' a' w' μ' F' → Q .normal a' w') (hpn : ∀ v H' a' w' μ' F' x, KP v H' → SimX cx nt E TT.emp H' a' w' μ' F' → Rep w' μ' F' v x → Q (.panic [{ v := x, recovered := false }]) a' w') : ∀ (n : Nat) (l : List Nat) (listed : Array Bool) (T : TT) (H : HH) (a : Act) (w : World) (μ : Id → Option Loc) (F : Nat → Prop),
    l.length = n → Good cx q ops l → listed.size = ops.size → (∀ i, i ∈ l ↔ i < ops.size ∧ listed.getD i true = false) → (∀ i j, i < ops.size → i ∉ l → HardOn ops i j → j ∉ l) → (∀ i j, HardOn ops i j → j < ops.size) →
    WL cx nt g q ops l T H K KP → SimX cx nt E T H a w μ F → wpAny cx.P .any ops Q n listed a w := by
  intro n
  induction n with
  | zero =>
    intro l listed T H a w μ F hl _ _ hm _ _ h s
    have : l = [] := List.eq_nil_of_length_eq_zero hl
    subst this
    refine ⟨?_, hn _ _ _ _ _ _ h s⟩
    rw [List.eq_nil_iff_forall_not_mem]
    intro i hi
    obtain ⟨h1, o, ho, _⟩ := mem_ready.1 hi
    exact absurd ((hm i).2 ⟨(Array.getElem?_eq_some_iff.1 ho).1, h1⟩) (by simp)
  | succ n ih =>
    intro l listed T H a w μ F hl hg hsz hm hdc hrg h s
    have isl : ∀ j, j < ops.size → j ∉ l → listed.getD j false = true := by
      intro j hj hjl
      have : ¬ (listed.getD j true = false) := fun e => hjl ((hm j).2 ⟨hj, e⟩)
      simp only [Array.getD_eq_getD_getElem?, Array.getElem?_eq_getElem (show j < listed.size by omega), Option.getD_some] at this ⊢
      simpa using this
    have rdy : ∀ i o, i ∈ l → ops[i]? = some o → (∀ j, HardOn ops i j → j ∉ l) → i ∈ Region.ready .any ops listed := by
      intro i o hi ho hh
      refine mem_ready.2 ⟨((hm i).1 hi).2, o, ho, fun e he hb => ?_⟩
      rw [binds_any] at hb
      have hon : HardOn ops i e.on := ⟨o, e, ho, by simpa using he, hb, rfl⟩
      exact isl _ (hrg _ _ hon) (hh _ hon)
    refine ⟨fun hr => ?_, fun i hi => ?_⟩
    · exfalso
      cases l with
      | nil => simp at hl
      | cons i l =>
        have h1 := ((hm i).1 (by simp)).1
        have := rdy i ops[i] (by simp) (Array.getElem?_eq_getElem h1) fun j hj hjl => by
          rcases List.mem_cons.1 hjl with rfl | hjl
          · exact hg.self _ (by simp) hj
          · exact (List.pairwise_cons.1 hg.hrd).1 j hjl hj
        rw [hr] at this
        cases this
    · obtain ⟨h1, o, ho, he⟩ := mem_ready.1 hi
      have hlt := (Array.getElem?_eq_some_iff.1 ho).1
      have hil : i ∈ l := (hm i).2 ⟨hlt, h1⟩
      have hon : ∀ j, HardOn ops i j → j ∉ l := by
        rintro j ⟨o', e, ho', he', hh, rfl⟩ hjl
        rw [ho] at ho'; cases ho'
        have h2 := he e (by simpa using he') (by rw [binds_any]; exact hh)
        have h3 := ((hm _).1 hjl).2
        simp only [Array.getD_eq_getD_getElem?] at h2 h3
        cases hx : listed[e.on]? with
        | none => rw [hx] at h2; cases h2
        | some x => rw [hx] at h2 h3; simp only [Option.getD_some] at h2 h3; rw [h2] at h3; cases h3
      have reach : ∀ k j, Reach ops k j → (k = i ∨ (k < ops.size ∧ k ∉ l)) → j ∉ l := by
        intro k j hr
        induction hr with
        | one ho' he' hh =>
          rename_i k o' e
          rintro (rfl | ⟨hk, hkl⟩)
          · exact hon _ ⟨_, _, ho', he', hh, rfl⟩
          · exact hdc _ _ hk hkl ⟨_, _, ho', he', hh, rfl⟩
        | step ho' he' hh _ ihr =>
          rename_i k o' e j _
          intro hk
          have hd : HardOn ops k e.on := ⟨_, _, ho', he', hh, rfl⟩
          refine ihr (.inr ⟨hrg _ _ hd, ?_⟩)
          rcases hk with rfl | ⟨hk, hkl⟩
          · exact hon _ hd
          · exact hdc _ _ hk hkl hd
      obtain ⟨l1, l2, rfl⟩ := List.append_of_mem hil
      have hnd := hg.nd
      have hps : ∀ j, j ∈ l1 → Passes cx q ops j i := by
        intro j hj
        have := (List.pairwise_append.1 hg.pass).2.2 j hj i (by simp)
        rcases this with h | h
        · exact absurd (by simp [hj]) (reach i j h (.inl rfl))
        · exact h
      have hp := W1c_of (pull ho l1 T H h hps fun t _ av r h1 h2 => inScope s h1 h2)
      have hsub : (l1 ++ l2).Sublist (l1 ++ i :: l2) := (List.Sublist.refl l1).append (List.sublist_cons_self i l2)
      have hnm : ∀ j, j ∈ l1 ++ l2 ↔ j ∈ l1 ++ i :: l2 ∧ j ≠ i := by
        intro j
        have hi2 : i ∉ l1 ++ l2 := by
          have := List.nodup_append.1 hnd
          obtain ⟨_, n2, n3⟩ := this
          have n4 := (List.nodup_cons.1 n2).1
          intro hh
          rcases List.mem_append.1 hh with hh | hh
          · exact n3 i hh i (by simp) rfl
          · exact n4 hh
        constructor
        · intro hj
          exact ⟨hsub.subset hj, fun e => hi2 (e ▸ hj)⟩
        · rintro ⟨hj, hne⟩
          simp only [List.mem_append, List.mem_cons] at hj ⊢
          rcases hj with h | h | h
          · exact .inl h
          · exact absurd h hne
          · exact .inr h
      unfold wpOp
      simp only [ho]
      have := W1_sound (next := wpAny cx.P .any ops Q n (listed.setIfInBounds i true)) (Q := Q) ok hp s (fun T' H' a' w' μ' F' hk s' => ?_) (fun v T' H' w' μ' F' x hk s' hr => hpn v H' _ w' μ' F' x hk s'.emp hr)
      · split
        · rename_i hw; rw [if_pos hw] at this; exact .inl this
        · rename_i hw; rw [if_neg hw] at this; exact this
      · refine ih (l1 ++ l2) _ T' H' a' w' μ' F' ?_ (hg.sub hsub) (by simpa using hsz) (fun j => ?_) (fun k j hk hkl hh => ?_) hrg hk s'
        · simp only [List.length_append, List.length_cons] at hl ⊢; omega
        · rw [hnm, hm]
          by_cases hji : j = i
          · subst hji
            simp [show j < listed.size by omega]
          · rw [getD_set_ne _ (fun e => hji e.symm)]
            simp [hji]
        · rw [hnm]
          rintro ⟨hj, hne⟩
          by_cases hki : k = i
          · subst hki; exact hon j hh hj
          · exact hdc k j hk (fun hk2 => hkl ((hnm k).2 ⟨hk2, hki⟩)) hh hj
theorem WL_region (ok : CxOK cx) (hm : cx.P.follows .mixedOrders = true) {ord : List Nat} (ho : orderOk cx q ops ord = true) {T : TT} {H : HH} {KP : AV → HH → Prop} (h : WL cx nt g q ops ord T H K KP) (hn : ∀ T' H' a' w' μ' F', K T' H' → SimX cx nt E T' H' a' w' μ' F' → Q .normal a' w') (hpn : ∀ v H' a' w' μ' F' x, KP v H' → SimX cx nt E TT.emp H' a' w' μ' F' → Rep w' μ' F' v x → Q (.panic [{ v := x, recovered := false }]) a' w')
    {a : Act} {w : World} {μ : Id → Option Loc} {F : Nat → Prop} {id : Nat} (s : SimX cx nt E T H a { w with drawn := w.drawn + 1 } μ F) : (Code.region id ops true).wp cx.P Q a w := by
  refine wp_region_any hm ?_
  unfold orderOk at ho
  simp only [Bool.and_eq_true] at ho
  obtain ⟨⟨h1, h2⟩, h3⟩ := ho
  have hah := ahT_reach (ops := ops) ops.toList [] (by simp) (by simp)
  obtain ⟨hg, hs⟩ := orderOk_go hah ord [] h3
  have hin : ∀ i, i ∈ ord ↔ i < ops.size := fun i => ⟨fun hi => by
    obtain ⟨o, ho⟩ := (hs i hi).2.1.1
    exact (Array.getElem?_eq_some_iff.1 ho).1, fun hi => by
    have := List.all_eq_true.1 h2 i (List.mem_range.2 hi)
    simpa using this⟩
  refine WL_sound ok hn hpn ops.size ord _ T H a _ μ F (Nat.eq_of_beq_eq_true h1) hg (by simp) (fun i => ?_) (fun i j hi hil => absurd ((hin i).2 hi) hil) (fun i j hh => ?_) h s
  · rw [hin]
    constructor
    · intro hi; exact ⟨hi, by simp [hi]⟩
    · exact fun h => h.1
  · obtain ⟨o, e, ho, _⟩ := hh
    have hi := (hin i).2 (Array.getElem?_eq_some_iff.1 ho).1
    have := (hs i hi).2.1.2 j ⟨o, e, ho, by assumption⟩
    rcases this with h | h
    · cases h
    · exact (hin j).1 h
theorem allL_iff {α : Type} {p : α → Prop} : ∀ {l : List α}, allL p l → ∀ x, x ∈ l → p x
  | [], _, x, hx => by cases hx
  | [y], h, x, hx => by simp only [List.mem_singleton] at hx; subst hx; exact h
  | y :: z :: l, h, x, hx => by
    rcases List.mem_cons.1 hx with rfl | hx
    · exact h.1
    · exact allL_iff h.2 x hx
theorem WA_sound (ok : CxOK cx) (hn : ∀ T' H' a' w' μ' F', K T' H' → SimX cx nt E T' H' a' w' μ' F' → Q .normal a' w') : ∀ (n : Nat) (seen : List Nat) (listed : Array Bool) (T : TT) (H : HH) (a : Act) (w : World) (μ : Id → Option Loc) (F : Nat → Prop),
    listed.size = ops.size → (∀ i, i < ops.size → (i ∈ seen ↔ listed.getD i true = true)) → (∀ i, i ∈ seen → i < ops.size) →
    WA cx nt g ops n seen T H K → SimX cx nt E T H a w μ F → wpAny cx.P .any ops Q n listed a w := by
  intro n
  have same : ∀ (seen : List Nat) (listed : Array Bool), listed.size = ops.size → (∀ i, i < ops.size → (i ∈ seen ↔ listed.getD i true = true)) → (∀ i, i ∈ seen → i < ops.size) → nexts ops seen = Region.ready .any ops listed := by
    intro seen listed hsz hs hl
    unfold nexts Region.ready
    refine List.filter_congr fun i hi => ?_
    have hi := List.mem_range.1 hi
    have h1 : seen.contains i = listed.getD i true := by
      rw [Bool.eq_iff_iff, ← hs i hi]; simp
    rw [h1, Array.getElem?_eq_getElem hi]
    simp only [Option.map_some, Option.getD_some]
    congr 1
    rw [← Array.all_toList]
    refine List.all_congr rfl fun e => ?_
    rw [binds_any]
    congr 1
    rw [Bool.eq_iff_iff]
    constructor
    · intro h
      have h : e.on ∈ seen := by simpa using h
      have hlt := hl _ h
      have := (hs _ hlt).1 h
      simp only [Array.getD_eq_getD_getElem?, Array.getElem?_eq_getElem (show e.on < listed.size by omega), Option.getD_some] at this ⊢
      exact this
    · intro h
      simp only [Array.getD_eq_getD_getElem?] at h
      cases hx : listed[e.on]? with
      | none => rw [hx] at h; cases h
      | some x =>
        rw [hx] at h
        have hlt : e.on < ops.size := by have := (Array.getElem?_eq_some_iff.1 hx).1; omega
        have := (hs _ hlt).2 (by simp only [Array.getD_eq_getD_getElem?, hx]; exact h)
        simpa using this
  induction n with
  | zero =>
    intro seen listed T H a w μ F hsz hs hl h s
    simp only [WA] at h
    split at h
    · rename_i hx
      exact ⟨(same seen listed hsz hs hl).symm.trans hx, hn _ _ _ _ _ _ h s⟩
    · exact h.elim
  | succ n ih =>
    intro seen listed T H a w μ F hsz hs hl h s
    simp only [WA] at h
    split at h
    · exact h.elim
    rename_i hne
    have hx := same seen listed hsz hs hl
    refine ⟨fun hr => absurd (hx.trans hr) hne, fun i hi => ?_⟩
    rw [← hx] at hi
    have hw := allL_iff h i hi
    split at hw
    rotate_left
    · exact hw.elim
    rename_i o ho
    have hlt := (Array.getElem?_eq_some_iff.1 ho).1
    unfold wpOp
    simp only [ho]
    have := W1_sound (next := wpAny cx.P .any ops Q n (listed.setIfInBounds i true)) (Q := Q) ok hw s (fun T' H' a' w' μ' F' hk s' => ?_) (fun _ _ _ _ _ _ _ h => h.elim)
    · split
      · rename_i hw; rw [if_pos hw] at this; exact .inl this
      · rename_i hw; rw [if_neg hw] at this; exact this
    · refine ih (i :: seen) _ T' H' a' w' μ' F' (by simpa using hsz) (fun j hj => ?_) (fun j hj => ?_) hk s'
      · by_cases hji : j = i
        · subst hji
          simp [show j < listed.size by omega]
        · rw [getD_set_ne _ (fun e => hji e.symm), ← hs j hj]
          simp [hji]
      · rcases List.mem_cons.1 hj with rfl | hj
        · exact hlt
        · exact hl j hj
theorem WA_region (ok : CxOK cx) (hm : cx.P.follows .mixedOrders = true) {T : TT} {H : HH} (h : WA cx nt g ops ops.size [] T H K) (hn : ∀ T' H' a' w' μ' F', K T' H' → SimX cx nt E T' H' a' w' μ' F' → Q .normal a' w')
    {a : Act} {w : World} {μ : Id → Option Loc} {F : Nat → Prop} {id : Nat} (s : SimX cx nt E T H a { w with drawn := w.drawn + 1 } μ F) : (Code.region id ops true).wp cx.P Q a w := by
  refine wp_region_any hm ?_
  exact WA_sound ok hn ops.size [] _ T H a _ μ F (by simp) (fun i hi => by simp [hi]) (by simp) h s
end
end Go.Eng

/- Part 5 of the proof of 'ExprSums': an engine for the program's code, and walks of its functions (Q S T U). -/
import Derived.Test.YtlcepambcoobgaaGreatDoorPart04
/- Soundness, thirteenth part: every operation, put together. -/
namespace Go.Eng
section
variable {cx : Cx} {w : World} {μ : Id → Option Loc} {F : Nat → Prop} {H : HH} {T : TT} {a : Act}
theorem opK_sound (ok : CxOK cx) (h : HRep w μ F H) (hg : GOK cx w F) (hT : TOKs w μ F T a) {quiet : Bool} {id : Id} {o : Oper} {K KP : AV → HH → Prop} (hk : opK cx quiet id o.op T H K KP) : Goes cx o a w μ F H K KP := by
  obtain ⟨dst, op, type, pos, after, guard⟩ := o
  simp only at hk
  unfold opK at hk
  split at hk
  · -- move
    obtain ⟨v, h1, hk⟩ := withE_iff hk
    exact ⟨fun next Q hn _ => hn _ w v H μ F hk (ev_sound hg hT h1) h hg (.refl ..)⟩
  · -- assign
    obtain ⟨v, h1, hk⟩ := withE_iff hk
    exact ⟨fun next Q hn _ => hn _ w v H μ F hk (ev_sound hg hT h1) h hg (.refl ..)⟩
  · -- pick
    obtain ⟨c, h1, hk⟩ := withE_iff hk
    split at hk
    rotate_left
    · exact hk.elim
    rename_i t
    have hc := (Rep_lit (ev_sound hg hT h1)).1
    unfold Br at hk
    split at hk
    · obtain ⟨v, h2, hk⟩ := withE_iff hk
      refine .value (.same h hg (s := pure _) rfl hk (ev_sound hg hT h2)) fun v w' hr => ?_
      cases hr
      simp [execOp, hc, asBool]
    · obtain ⟨v, h2, hk⟩ := withE_iff hk
      refine .value (.same h hg (s := pure _) rfl hk (ev_sound hg hT h2)) fun v w' hr => ?_
      cases hr
      simp [execOp, hc, asBool]
  · -- alloc
    split at hk
    · rename_i ht
      exact .value (alloc_sound ok h hg ht hk) fun v w' hr => by simp [execOp, hr]
    · exact hk.elim
  · -- box
    rename_i t x
    obtain ⟨v, h1, hk⟩ := withE_iff hk
    split at hk
    rotate_left
    · exact hk.elim
    rename_i ht
    split at hk
    rotate_left
    · exact hk.elim
    rename_i hn
    obtain ⟨i, dd, zz, t1, t2, t3, t4, t5, t6, t7, t8, t9, t10, t11⟩ := (ok.ty _ _ ht).ok
    exact .value (boxop_sound (t := t) h hg t11 (ev_sound hg hT h1) (Nat.eq_of_beq_eq_true hn) hk) fun v w' hr => by simp [execOp, hr]
  · -- build
    rename_i t ps
    split at hk
    rotate_left
    · exact hk.elim
    rename_i ht
    obtain ⟨l, hk, hl⟩ := partsK_iff hk
    refine .value (build_sound ok h hg ht (parts_sound hg hT hl) hk) fun v w' hr => ?_
    have : (ps.map fun (x : Nat × Operand) => (x.1, a.eval x.2)) = ⟨ps.toList.map fun p => (p.1, a.eval p.2)⟩ := by apply Array.ext'; simp
    simp only [execOp]
    rw [this]
    simp [hr]
  · -- buildSlice
    rename_i t n ps
    split at hk
    rotate_left
    · exact hk.elim
    rename_i ht
    split at hk
    rotate_left
    · exact hk.elim
    rename_i he
    split at hk
    rotate_left
    · exact hk.elim
    rename_i c1 c2 c3
    obtain ⟨l, hk, hl⟩ := partsK_iff hk
    have hln : l.length = n := by rw [← hl.length]; exact Nat.eq_of_beq_eq_true c3
    refine .value (buildSlice_sound ok h hg ht he (Nat.le_of_ble_eq_true c1) (Nat.le_of_ble_eq_true c2) (parts_sound hg hT hl) hln hk) fun v w' hr => ?_
    have : (ps.map fun (x : Nat × Operand) => (x.1, a.eval x.2)) = ⟨ps.toList.map fun p => (p.1, a.eval p.2)⟩ := by apply Array.ext'; simp
    simp only [execOp]
    rw [this]
    simp [hr]
  · -- load
    obtain ⟨p, h1, hk⟩ := withE_iff hk
    obtain ⟨v, av, k1, k2, k3⟩ := loadK_sound ok h hk (ev_sound hg hT h1)
    exact .value (.same h hg k1 k2 k3) fun v w' hr => by simp [execOp, hr]
  · -- store
    rename_i t0 p0 x0
    obtain ⟨p, h1, hk⟩ := withE_iff hk
    obtain ⟨v, h2, hk⟩ := withE_iff hk
    split at hk
    rotate_left
    · exact hk.elim
    rename_i ht
    split at hk
    rotate_left
    · exact hk.elim
    rename_i hn
    obtain ⟨w', H', k1, k2, k3, k4, k5⟩ := storeK_sound ok h hg ht (Nat.eq_of_beq_eq_true hn) hk (ev_sound hg hT h1) (ev_sound hg hT h2)
    refine ⟨fun next Q hn _ => ?_⟩
    have := hn undef w' skipV H' μ F k2 (.frz (.lit (show Plain (.tuple #[]) from rfl))) k3 k4 k5
    unfold Oper.wp
    have hrun : (execOp a.eval { dst, op := .store t0 p0 x0, type, pos, after, guard }).run cx.P w = .ok .skip w' := by
      simp only [execOp, Sem.run_bind, k1, Result.andThen_ok, Sem.run_pure]
    rw [hrun]; exact this
  · -- nilCheck
    obtain ⟨v, h1, hk⟩ := withE_iff hk
    obtain ⟨k1, k2⟩ := nilCheckK_sound h hk (ev_sound hg hT h1)
    refine .value (.same h hg (s := pure _) rfl k1 (ev_sound hg hT h1)) fun v w' hr => ?_
    cases hr
    rcases k2 with ⟨a', e⟩ | ⟨t, y, e⟩ | ⟨f, x, y, e⟩ <;> simp only [execOp, e] <;> rfl
  · -- binOp
    obtain ⟨u, h1, hk⟩ := withE_iff hk
    obtain ⟨v, h2, hk⟩ := withE_iff hk
    split at hk
    rotate_left
    · exact hk.elim
    rename_i ht
    exact .value (binK_sound ok h hg ht hk (ev_sound hg hT h1) (ev_sound hg hT h2)) fun v w' hr => by
      simp only [execOp]
      rw [Sem.run_bind, hr]; rfl
  · -- unOp
    obtain ⟨v, h1, hk⟩ := withE_iff hk
    exact .value (unK_sound h hg hk (ev_sound hg hT h1)) fun v w' hr => by simp [execOp, hr]
  · -- convert
    obtain ⟨v, h1, hk⟩ := withE_iff hk
    exact .value (convK_sound ok h hg hk (ev_sound hg hT h1)) fun v w' hr => by simp [execOp, hr]
  · -- makeInterface
    rename_i t x
    obtain ⟨v, h1, hk⟩ := withE_iff hk
    split at hk
    · exact hk.elim
    · rename_i ti hne ht
      obtain ⟨i, dd, zz, t1, t2, t3, t4, t5, _⟩ := (ok.ty _ _ ht).ok
      have hni : ∀ ms, dd ≠ .interface ms := by
        rintro ms rfl
        obtain ⟨d, sz, bs, z⟩ := ti
        cases d <;> simp only [DOK] at t5 <;> first | (cases t5; done) | (obtain ⟨_, t5, _⟩ := t5; cases t5; done) | exact (t5.2 _ rfl).elim | (obtain ⟨_, _, _, t5⟩ := t5; cases t5; done) | exact hne _ _ _ rfl
      refine .value (.same h hg (s := Instr.makeInterface t (a.eval x)) ?_ hk (.ifc (ev_sound hg hT h1))) fun v w' hr => by simp [execOp, hr]
      simp only [Instr.makeInterface, Sem.run_bind, run_underlying t2, Result.andThen_ok]
      cases dd <;> first | exact absurd rfl (hni _) | rfl
    · exact hk.elim
  · -- makeFunc
    rename_i fn first cap
    obtain ⟨l1, hk, hl1⟩ := evs_iff hk
    obtain ⟨l2, hk, hl2⟩ := evs_iff hk
    have e1 := evs_sound hg hT hl1
    have e2 := evs_sound hg hT hl2
    have x1 : first.map a.eval = ⟨first.toList.map a.eval⟩ := by apply Array.ext'; simp
    have x2 : cap.map a.eval = ⟨cap.toList.map a.eval⟩ := by apply Array.ext'; simp
    refine .value (.same h hg (s := pure (.func fn (first.map a.eval) (cap.map a.eval))) rfl hk ?_) fun v w' hr => by
      cases hr; simp [execOp, Instr.makeFunc]
    rw [x1, x2]; exact .clo e1.length e2.length e1.get e2.get
  · -- makeSlice
    obtain ⟨u, h1, hk⟩ := withE_iff hk
    obtain ⟨v, h2, hk⟩ := withE_iff hk
    exact .value (makeSliceK_sound ok h hg hk (ev_sound hg hT h1) (ev_sound hg hT h2)) fun v w' hr => by simp [execOp, hr]
  · -- slice
    obtain ⟨v, h1, hk⟩ := withE_iff hk
    obtain ⟨lo, hk, e1⟩ := optE_sound hg hT hk
    obtain ⟨hi, hk, e2⟩ := optE_sound hg hT hk
    obtain ⟨mx, hk, e3⟩ := optE_sound hg hT hk
    exact .value (sliceK_sound ok h hg hk (ev_sound hg hT h1) e1 e2 e3) fun v w' hr => by simp [execOp, hr]
  · -- fieldAddr
    obtain ⟨v, h1, hk⟩ := withE_iff hk
    split at hk
    rotate_left
    · exact hk.elim
    rename_i ht
    exact .value (fieldAddrK_sound ok h hg ht hk (ev_sound hg hT h1)) fun v w' hr => by simp [execOp, hr]
  · -- indexAddr
    obtain ⟨u, h1, hk⟩ := withE_iff hk
    obtain ⟨v, h2, hk⟩ := withE_iff hk
    split at hk
    rotate_left
    · exact hk.elim
    rename_i ht
    split at hk
    rotate_left
    · exact hk.elim
    rename_i he
    exact .value (indexAddrK_sound ok h hg ht he hk (ev_sound hg hT h1) (ev_sound hg hT h2)) fun v w' hr => by simp [execOp, hr]
  · -- index
    obtain ⟨u, h1, hk⟩ := withE_iff hk
    obtain ⟨v, h2, hk⟩ := withE_iff hk
    split at hk
    rotate_left
    · exact hk.elim
    rename_i ht
    obtain ⟨i, dd, zz, t1, t2, t3, t4, t5, _⟩ := (ok.ty _ _ ht).ok
    obtain rfl : dd = .string := t5
    exact .value (indexK_sound h hg t2 hk (ev_sound hg hT h1) (ev_sound hg hT h2)) fun v w' hr => by simp [execOp, hr]
  · -- extract
    obtain ⟨v, h1, hk⟩ := withE_iff hk
    exact .value (extractK_sound h hg hk (ev_sound hg hT h1)) fun v w' hr => by simp [execOp, hr]
  · -- typeAssert
    rename_i x0 xt0 t0 ok0
    obtain ⟨v, h1, hk⟩ := withE_iff hk
    split at hk
    · exact hk.elim
    · rename_i ti hne ht
      obtain ⟨i, dd, zz, t1, t2, t3, t4, t5, _⟩ := (ok.ty _ _ ht).ok
      have hni : ∀ ms, cx.P.underlying t0 ≠ some (.interface ms) := by
        intro ms e
        rw [t2] at e; cases e
        obtain ⟨d, sz, bs, z⟩ := ti
        cases d <;> simp only [DOK] at t5 <;> first | (cases t5; done) | (obtain ⟨_, t5, _⟩ := t5; cases t5; done) | exact (t5.2 _ rfl).elim | (obtain ⟨_, _, _, t5⟩ := t5; cases t5; done) | exact hne _ _ _ rfl
      exact .value (assertK_sound (xt := xt0) ok h hg hni ⟨_, t2⟩ hk (ev_sound hg hT h1)) fun v w' hr => by simp [execOp, hr]
    · exact hk.elim
  · -- call
    rename_i c
    obtain ⟨callee, args, argTypes⟩ := c
    unfold callK at hk
    simp only at hk
    obtain ⟨l, hk2, hl⟩ := evs_iff hk
    clear hk
    have hk := hk2
    clear hk2
    have hargs := evs_sound hg hT hl
    have xa : args.map a.eval = ⟨args.toList.map a.eval⟩ := by apply Array.ext'; simp
    cases callee with
    | builtin b =>
      have run : ∀ {s : Sem Value}, (∀ cs, builtin b argTypes type cs ⟨args.toList.map a.eval⟩ = (do pure (.value (← s)))) → ∀ v w', s.run cx.P w = .ok v w' →
          (execOp a.eval { dst, op := .call { callee := .builtin b, args, argTypes }, type, pos, after, guard }).run cx.P w = .ok (.value v) w' := by
        intro s hs v w' hr
        simp only [execOp, resolve, xa, invoke, Sem.run_bind, Sem.run_pure, Result.andThen_ok, hs, hr]
      generalize args.toList.map a.eval = vs at hargs run
      cases b <;> simp only at hk <;> try exact hk.elim
      case append =>
        split at hk
        rotate_left
        · exact hk.elim
        rename_i t t2 rest x y hat
        obtain rfl : argTypes = ⟨t :: t2 :: rest⟩ := by rw [← hat]
        cases hargs with
        | cons hq1 hl1 =>
          rename_i va vr
          cases hl1 with
          | cons hq2 hl2 =>
            rename_i vb vr2
            cases hl2
            refine .value ?_ (run fun cs => rfl)
            have hrest : ∀ u v, Builtin.append_ ⟨t :: t2 :: rest⟩ type #[u, v] = Builtin.append_ #[t, t2] type #[u, v] := fun _ _ => rfl
            show Yields cx w μ F H (Builtin.append_ ⟨t :: t2 :: rest⟩ type #[va, vb]) K
            rw [hrest]
            unfold appendK at hk
            split at hk
            rotate_left
            · exact hk.elim
            rename_i e _ _ _ ht
            split at hk
            rotate_left
            · exact hk.elim
            rename_i d sz bs z he
            split at hk
            rotate_left
            · exact hk.elim
            rename_i hz1 hz2
            have hz1 := Nat.le_of_ble_eq_true hz1
            have hz2 := Nat.le_of_ble_eq_true hz2
            obtain ⟨i2, d2, z2, t1, t2', t3, t4, t5, t6, t7, t8, t9, t10, t11⟩ := (ok.ty e _ he).ok
            have hzl : z2.cells.size = sz := by
              have := (t9 w F).length
              simp only [Array.length_toList] at this t8
              omega
            have go : ((∃ e', cx.P.underlying t2 = some (.slice e')) ∨ cx.P.underlying t2 = some .string) → contentK H sz (fun m xs => appendTo sz bs id H m xs K x) y → Yields cx w μ F H (Builtin.append_ #[t, t2] type #[va, vb]) K := by
              intro hk2 hk
              obtain ⟨m, xs, news, hk, hc⟩ := contentK_sound h hk hq2
              exact appendTo_sound h hg (sz := sz) (bs := bs) (Nat.lt_of_lt_of_le Nat.zero_lt_one hz1) (slice_ok ok ht) t1 t6 t3 t4 hzl hk2 (Nat.lt_of_lt_of_le Nat.zero_lt_one hz2) hc hk hq1
            split at hk
            · rename_i e2 _ _ _ ht2
              exact go (.inl ⟨_, slice_ok ok ht2⟩) hk
            · rename_i ht2
              obtain ⟨i, dd, zz, s1, s2, s3, s4, s5, -⟩ := (ok.ty t2 _ ht2).ok
              obtain rfl : dd = .string := s5
              exact go (.inr s2) hk
            · exact hk.elim
      case len =>
        split at hk
        rotate_left
        · exact hk.elim
        rename_i t rest x hat
        obtain rfl : argTypes = ⟨t :: rest⟩ := by rw [← hat]
        split at hk
        rotate_left
        · exact hk.elim
        rename_i ht
        cases hargs with
        | cons hq hn =>
          cases hn
          exact .value (lenK_sound ok h hg ht hk hq) (run fun cs => rfl)
      case copy =>
        split at hk
        rotate_left
        · exact hk.elim
        rename_i t rest x y hat
        obtain rfl : argTypes = ⟨t :: rest⟩ := by rw [← hat]
        cases hargs with
        | cons hq1 hl1 =>
          cases hl1 with
          | cons hq2 hl2 =>
            cases hl2
            exact .value (copyK_sound ok h hg hk hq1 hq2) (run fun cs => rfl)
      case clear =>
        split at hk
        rotate_left
        · exact hk.elim
        rename_i t rest x hat
        obtain rfl : argTypes = ⟨t :: rest⟩ := by rw [← hat]
        cases hargs with
        | cons hq hn =>
          cases hn
          exact .value (clearK_sound ok h hg hk hq) (run fun cs => rfl)
      case min => exact .value (by simpa using minmax_sound (mx := false) (at_ := argTypes) (ty := type) h hg hk hargs) (run fun cs => rfl)
      case max => exact .value (by simpa using minmax_sound (mx := true) (at_ := argTypes) (ty := type) h hg hk hargs) (run fun cs => rfl)
    | value f =>
      simp only at hk
      split at hk
      rotate_left
      · exact hk.elim
      rename_i g first cap hf
      obtain ⟨fs, cs, e1, e2, e3⟩ := Rep_clo (ev_sound hg hT hf)
      refine Goes.call h hg hk ((e2.append hargs).append e3) ?_
      simp only [execOp, resolve, xa, e1, Deferred.ofValue, Sem.run_bind, Sem.run_pure, Result.andThen_ok, invoke]
      congr 2
      simp
    | invoke x name =>
      simp only at hk
      obtain ⟨v, h1, hk⟩ := withE_iff hk
      split at hk
      rotate_left
      · exact hk.elim
      rename_i t u
      split at hk
      rotate_left
      · exact hk.elim
      rename_i f hm
      obtain ⟨y, e1, e2⟩ := Rep_ifc (ev_sound hg hT h1)
      refine Goes.call h hg hk (.cons e2 hargs) ?_
      have hmm := ok.meth t name f hm y w
      simp only [execOp, resolve, xa, e1, Sem.run_bind, Sem.run_pure, Result.andThen_ok, invoke]
      simp only [Array.getElem?_append, List.getElem?_toArray]
      simp [callMethod, hmm]
      rw [List.take_of_length_le (by simp)]
  · -- panic
    rename_i p0
    obtain ⟨v, h1, hk⟩ := withE_iff hk
    split at hk
    rotate_left
    · exact hk.elim
    rename_i t u
    have hv := ev_sound hg hT h1
    obtain ⟨y, hy, _⟩ := Rep_ifc hv
    refine ⟨fun next Q _ hp => ?_⟩
    have := hp _ w _ H μ F hk hv h hg (.refl ..)
    unfold Oper.wp
    have hrun : (execOp a.eval { dst, op := .panic p0, type, pos, after, guard }).run cx.P w = .halt (.panic (.iface t y)) w := by
      simp only [execOp, hy, Instr.panic, Sem.run_bind, run_goPanic]; rfl
    rw [hrun]; rw [hy] at this; exact this
  · -- makeMap
    rename_i t0
    exact .value (makeMapK_sound (t := t0) h hg hk) fun v w' hr => by simp [execOp, hr]
  · -- lookup
    obtain ⟨u, h1, hk⟩ := withE_iff hk
    obtain ⟨v, h2, hk⟩ := withE_iff hk
    exact .value (lookupK_sound ok h hg hk (ev_sound hg hT h1) (ev_sound hg hT h2)) fun v w' hr => by simp [execOp, hr]
  · -- mapUpdate
    rename_i t0 m0 k0 v0
    obtain ⟨u, h1, hk⟩ := withE_iff hk
    obtain ⟨v, h2, hk⟩ := withE_iff hk
    obtain ⟨z, h3, hk⟩ := withE_iff hk
    obtain ⟨w', H', k1, k2, k3, k4, k5⟩ := mapUpdateK_sound ok h hg hk (ev_sound hg hT h1) (ev_sound hg hT h2) (ev_sound hg hT h3)
    refine ⟨fun next Q hn _ => ?_⟩
    have := hn undef w' skipV H' μ F k2 (.frz (.lit (show Plain (.tuple #[]) from rfl))) k3 k4 k5
    unfold Oper.wp
    have hrun : (execOp a.eval { dst, op := .mapUpdate t0 m0 k0 v0, type, pos, after, guard }).run cx.P w = .ok .skip w' := by
      simp only [execOp, Sem.run_bind, k1, Result.andThen_ok, Sem.run_pure]
    rw [hrun]; exact this
  · -- insert
    rename_i t0 m0 k0 v0
    obtain ⟨u, h1, hk⟩ := withE_iff hk
    obtain ⟨v, h2, hk⟩ := withE_iff hk
    obtain ⟨z, h3, hk⟩ := withE_iff hk
    obtain ⟨w', H', k1, k2, k3, k4, k5⟩ := mapUpdateK_sound ok h hg hk (ev_sound hg hT h1) (ev_sound hg hT h2) (ev_sound hg hT h3)
    refine ⟨fun next Q hn _ => ?_⟩
    have := hn undef w' skipV H' μ F k2 (.frz (.lit (show Plain (.tuple #[]) from rfl))) k3 k4 k5
    unfold Oper.wp
    have hrun : (execOp a.eval { dst, op := .insert t0 m0 k0 v0, type, pos, after, guard }).run cx.P w = .ok .skip w' := by
      simp only [execOp, Sem.run_bind, k1, Result.andThen_ok, Sem.run_pure]
    rw [hrun]; exact this
  · -- range
    obtain ⟨v, h1, hk⟩ := withE_iff hk
    exact .value (rangeK_sound ok h hg hk (ev_sound hg hT h1)) fun v w' hr => by simp [execOp, hr]
  · -- next
    obtain ⟨v, h1, hk⟩ := withE_iff hk
    exact .value (nextK_sound (ty := type) h hg hk (ev_sound hg hT h1)) fun v w' hr => by simp [execOp, hr]
  · exact hk.elim
end
end Go.Eng
/- Soundness, fourteenth part: regions that keep the text's order, code, functions. -/
namespace Go.Eng
/-- The frame since the function's entry; names of generation 0 stay. -/
structure FrB (w : World) (μ : Id → Option Loc) (F : Nat → Prop) (H : HH) (w' : World) (μ' : Id → Option Loc) (F' : Nat → Prop) (H' : HH) : Prop where
  os : w'.os = w.os
  tape : w'.tape = w.tape
  output : w'.output = w.output
  size : w.heap.size ≤ w'.heap.size
  keep : ∀ b, b < w.heap.size → ¬ Lv μ H b → w'.heap[b]? = w.heap[b]?
  mu : ∀ r l, r.1 = 0 → μ r = some l → μ' r = some l
  fr : ∀ b, F b → F' b
  fr' : ∀ b, F' b → F b ∨ w.heap.size ≤ b ∨ Lv μ H b
  lv : ∀ b, Lv μ' H' b → w.heap.size ≤ b ∨ Lv μ H b
theorem FrB.step {w μ F H w1 μ1 F1 H1 w2 μ2 F2 H2} (a : FrB w μ F H w1 μ1 F1 H1) (b : Fr w1 μ1 F1 H1 w2 μ2 F2 H2) : FrB w μ F H w2 μ2 F2 H2 where
  os := b.os.trans a.os
  tape := b.tape.trans a.tape
  output := b.output.trans a.output
  size := Nat.le_trans a.size b.size
  keep := fun i hi hl => (b.keep i (Nat.lt_of_lt_of_le hi a.size) (fun h => (a.lv i h).elim (fun h => by omega) hl)).trans (a.keep i hi hl)
  mu := fun r l h0 h => b.mu r l (a.mu r l h0 h)
  fr := fun i h => b.fr i (a.fr i h)
  fr' := fun i h => (b.fr' i h).elim (fun h => a.fr' i h) (fun h => h.elim (fun h => .inr (.inl (Nat.le_trans a.size h))) (fun h => .inr (a.lv i h)))
  lv := fun i h => (b.lv i h).elim (fun h => .inl (Nat.le_trans a.size h)) (fun h => a.lv i h)
structure Entry where
  w : World
  μ : Id → Option Loc
  F : Nat → Prop
  H : HH
  ds : List Deferred
/-- A state of the evaluator and one of the machine. -/
structure SimX (cx : Cx) (nt : Nat) (E : Entry) (T : TT) (H : HH) (a : Act) (w : World) (μ : Id → Option Loc) (F : Nat → Prop) : Prop where
  h : HRep w μ F H
  g : GOK cx w F
  t : TOKs w μ F T a
  b : ∀ t av, T t = some av → t < nt
  n : a.tmps.size = nt
  d : a.defers = E.ds
  f : FrB E.w E.μ E.F E.H w μ F H
inductive AXR (w : World) (μ : Id → Option Loc) (F : Nat → Prop) : AX → Exit → Prop
  | normal : AXR w μ F .normal .normal
  | exit {i} : AXR w μ F (.exit i) (.exit i)
  | goto {l} : AXR w μ F (.goto l) (.goto l)
  | ret : AXR w μ F .ret .ret
  | panic {av v} : Rep w μ F av v → AXR w μ F (.panic av) (.panic [{ v, recovered := false }])
def Lift (cx : Cx) (nt : Nat) (E : Entry) (Q : AX → TT → HH → Prop) (e : Exit) (a : Act) (w : World) : Prop :=
  ∃ ae T H μ F, Q ae T H ∧ SimX cx nt E T H a w μ F ∧ AXR w μ F ae e
section
variable {cx : Cx} {nt : Nat} {E : Entry}
theorem Fr.rep {w μ F H w' μ' F' H'} (hh : HRep w μ F H) (f : Fr w μ F H w' μ' F' H') {av v} (h : Rep w μ F av v) : Rep w' μ' F' av v :=
  h.mono (fun b hb => f.keep b (hh.lt b hb) fun ⟨r, row, l, h1, h2, h3, h4⟩ => hh.disj r row l b h1 h2 h3 h4 hb) f.fr f.mu
theorem put_getD (a : Act) (d : Nat) (v : Value) (hd : d < a.tmps.size) (t : Nat) : (a.put (some d) v).tmps.getD t undef = if t = d then v else a.tmps.getD t undef := by
  simp only [Act.put, Array.getD_eq_getD_getElem?]
  by_cases h : t = d
  · subst h; simp [hd]
  · rw [if_neg h, Array.getElem?_setIfInBounds_ne (fun e => h e.symm)]
theorem SimX.put {T : TT} {H H' : HH} {a : Act} {w w' : World} {μ μ' : Id → Option Loc} {F F' : Nat → Prop} (s : SimX cx nt E T H a w μ F) {d : Nat} (hd : d < nt) {av : AV} {v : Value} (hv : Rep w' μ' F' av v) (h : HRep w' μ' F' H') (g : GOK cx w' F') (f : Fr w μ F H w' μ' F' H') :
    SimX cx nt E (T.put d av) H' (a.put (some d) v) w' μ' F' := by
  refine ⟨h, g, fun t u hu => ?_, fun t u hu => ?_, by simp [Act.put, s.n], s.d, s.f.step f⟩
  · rw [put_getD a d v (by rw [s.n]; exact hd)]
    by_cases e : t = d
    · subst e; rw [TT.put_same] at hu; cases hu; rw [if_pos rfl]; exact hv
    · rw [TT.put_ne _ _ e] at hu; rw [if_neg e]; exact f.rep s.h (s.t t u hu)
  · by_cases e : t = d
    · subst e; exact hd
    · rw [TT.put_ne _ _ e] at hu; exact s.b t u hu
theorem SimX.keep {T : TT} {H H' : HH} {a : Act} {w w' : World} {μ μ' : Id → Option Loc} {F F' : Nat → Prop} (s : SimX cx nt E T H a w μ F) (h : HRep w' μ' F' H') (g : GOK cx w' F') (f : Fr w μ F H w' μ' F' H') :
    SimX cx nt E T H' a w' μ' F' := ⟨h, g, fun t u hu => f.rep s.h (s.t t u hu), s.b, s.n, s.d, s.f.step f⟩
theorem SimX.del {T : TT} {H : HH} {a : Act} {w : World} {μ : Id → Option Loc} {F : Nat → Prop} (s : SimX cx nt E T H a w μ F) {d : Nat} (hd : d < nt) (v : Value) : SimX cx nt E (T.del d) H (a.put (some d) v) w μ F := by
  refine ⟨s.h, s.g, fun t u hu => ?_, fun t u hu => ?_, by simp [Act.put, s.n], s.d, s.f⟩
  · by_cases e : t = d
    · subst e; rw [TT.del_same] at hu; cases hu
    · rw [TT.del_ne _ e] at hu
      rw [put_getD a d v (by rw [s.n]; exact hd), if_neg e]; exact s.t t u hu
  · by_cases e : t = d
    · subst e; rw [TT.del_same] at hu; cases hu
    · rw [TT.del_ne _ e] at hu; exact s.b t u hu
theorem yielded_of {ops : Array Oper} {T : TT} {H : HH} {a : Act} {w : World} {μ : Id → Option Loc} {F : Nat → Prop} (s : SimX cx nt E T H a w μ F) {j e : Nat} {o : Oper} (hj : ops[j]? = some o) (hd : o.dst = some e) {b : Bool} (hT : T e = some (.lit (.bool b))) :
    yielded ops a.tmps j = some b := by
  have h1 := (Rep_lit (s.t e _ hT)).1
  have h2 : e < a.tmps.size := by rw [s.n]; exact s.b e _ hT
  have h3 : a.tmps[e]? = some (.bool b) := by
    rw [Array.getD_eq_getD_getElem?, Array.getElem?_eq_getElem h2] at h1
    rw [Array.getElem?_eq_getElem h2]; simpa using h1
  simp [yielded, hj, hd, h3]
theorem SimX.skip {T : TT} {H : HH} {a : Act} {w : World} {μ : Id → Option Loc} {F : Nat → Prop} (s : SimX cx nt E T H a w μ F) {d : Nat} (hd : d < nt) : SimX cx nt E (T.put d skipV) H (a.put (some d) undef) w μ F :=
  s.put hd (.frz (.lit (show Plain (.tuple #[]) from rfl))) s.h s.g (.refl ..)
theorem wanted_of {ops : Array Oper} {T : TT} {H : HH} {a : Act} {w : World} {μ : Id → Option Loc} {F : Nat → Prop} (s : SimX cx nt E T H a w μ F) {j e : Nat} {o : Oper} (hj : ops[j]? = some o) (hd : o.dst = some e) {b want : Bool} (hT : gOf want (T e) = some b) {p : Oper} (hg : p.guard = some (j, want)) :
    Region.wanted p (yielded ops a.tmps) = (b == want) := by
  simp only [Region.wanted, hg]
  unfold gOf at hT
  split at hT
  · rename_i v hv
    split at hT
    · rename_i b'
      cases hT
      rw [yielded_of s hj hd hv]
      cases b <;> cases want <;> rfl
    · rename_i vs
      cases hT
      have h1 := (Rep_lit (s.t e _ hv)).1
      have h2 : e < a.tmps.size := by rw [s.n]; exact s.b e _ hv
      have h3 : a.tmps[e]? = some (.tuple vs) := by
        rw [Array.getD_eq_getD_getElem?, Array.getElem?_eq_getElem h2] at h1
        rw [Array.getElem?_eq_getElem h2]; simpa using h1
      have : yielded ops a.tmps j = none := by simp [yielded, hj, hd, h3]
      rw [this]
      cases want <;> rfl
    · cases hT
  · cases hT
theorem W_cons (q : Nat → Bool) (g : Nat) (ops : Array Oper) (i : Nat) (o : Oper) (l : List Oper) (T : TT) (H : HH) (K : TT → HH → Prop) (KP : AV → TT → HH → Prop) :
    W cx nt g q ops i (o :: l) T H K KP = W1 cx nt g (q i) ops o T H (fun T' H' => W cx nt g q ops (i + 1) l T' H' K KP) KP := by
  obtain ⟨dst, op, t, p, af, guard⟩ := o
  rfl
theorem W1_sound (ok : CxOK cx) {g : Nat} {quiet : Bool} {ops : Array Oper} {o : Oper} {T : TT} {H : HH} {K : TT → HH → Prop} {KP : AV → TT → HH → Prop} (hk : W1 cx nt g quiet ops o T H K KP) {a : Act} {w : World} {μ : Id → Option Loc} {F : Nat → Prop} (s : SimX cx nt E T H a w μ F)
    {next : Act → World → Prop} {Q : Exit → Act → World → Prop} (hn : ∀ T' H' a' w' μ' F', K T' H' → SimX cx nt E T' H' a' w' μ' F' → next a' w')
    (hp : ∀ v T' H' w' μ' F' x, KP v T' H' → SimX cx nt E T' H' a w' μ' F' → Rep w' μ' F' v x → Q (.panic [{ v := x, recovered := false }]) a w') :
    if Region.wanted o (yielded ops a.tmps) then o.wp cx.P a w next Q else next (a.put o.dst undef) w := by
  obtain ⟨dst, op, ty, pos, af, guard⟩ := o
  have some_ : ∀ {d : Nat}, Nat.blt d nt = true → opK cx quiet (g, d, 0) op T H (fun v H' => K (T.put d v) H') (fun v H' => KP v T H') → dst = some d → Oper.wp cx.P ⟨dst, op, ty, pos, af, guard⟩ a w next Q := by
    intro d hd hk' he
    subst he
    have hd := Nat.le_of_ble_eq_true hd
    have := opK_sound (o := ⟨some d, op, ty, pos, af, guard⟩) ok s.h s.g s.t hk'
    exact this.h next Q (fun v w' av H' μ' F' k1 k2 k3 k4 k5 => hn _ _ _ _ _ _ k1 (s.put hd k2 k3 k4 k5)) (fun v w' av H' μ' F' k1 k2 k3 k4 k5 => hp _ _ _ _ _ _ _ k1 (s.keep k3 k4 k5) k2)
  have none_ : opK cx quiet (g, 1000000, 0) op T H (fun _ H' => K T H') (fun v H' => KP v T H') → dst = none → Oper.wp cx.P ⟨dst, op, ty, pos, af, guard⟩ a w next Q := by
    intro hk' he
    subst he
    have := opK_sound (o := ⟨none, op, ty, pos, af, guard⟩) ok s.h s.g s.t hk'
    exact this.h next Q (fun v w' av H' μ' F' k1 k2 k3 k4 k5 => hn _ _ _ _ _ _ k1 (s.keep k3 k4 k5)) (fun v w' av H' μ' F' k1 k2 k3 k4 k5 => hp _ _ _ _ _ _ _ k1 (s.keep k3 k4 k5) k2)
  unfold W1 at hk
  simp only at hk
  split at hk
  · rw [if_pos (by simp [Region.wanted])]
    split at hk
    · split at hk
      · rename_i hb
        exact some_ hb hk rfl
      · exact hk.elim
    · exact none_ hk rfl
  · rename_i j want
    split at hk
    rotate_left
    · exact hk.elim
    rename_i e _ _ _ _ _ hj
    split at hk
    rotate_left
    · exact hk.elim
    rename_i b hb
    have hw : Region.wanted ⟨dst, op, ty, pos, af, some (j, want)⟩ (yielded ops a.tmps) = (b == want) := wanted_of s hj rfl hb rfl
    rw [hw]
    split at hk
    · split at hk
      rotate_left
      · exact hk.elim
      rename_i hd
      rw [BrW_eq] at hk; unfold Br at hk
      split at hk
      · rename_i hbw
        rw [hbw, if_pos rfl]; exact some_ hd hk rfl
      · rename_i hbw
        rw [hbw]
        simp only [Bool.false_eq_true, if_false]
        exact hn _ _ _ _ _ _ hk (s.skip (Nat.le_of_ble_eq_true hd))
    · rw [BrW_eq] at hk; unfold Br at hk
      split at hk
      · rename_i hbw
        rw [hbw, if_pos rfl]; exact none_ hk rfl
      · rename_i hbw
        rw [hbw]
        simp only [Bool.false_eq_true, if_false]
        exact hn _ _ _ _ _ _ hk s
theorem W_sound (ok : CxOK cx) {g : Nat} {q : Nat → Bool} {ops : Array Oper} {K : TT → HH → Prop} {KP : AV → TT → HH → Prop} {Q : Exit → Act → World → Prop}
    (hn : ∀ T' H' a' w' μ' F', K T' H' → SimX cx nt E T' H' a' w' μ' F' → Q .normal a' w')
    (hp : ∀ v T' H' a' w' μ' F' x, KP v T' H' → SimX cx nt E T' H' a' w' μ' F' → Rep w' μ' F' v x → Q (.panic [{ v := x, recovered := false }]) a' w') :
    ∀ (l : List Oper) (i : Nat) (T : TT) (H : HH), W cx nt g q ops i l T H K KP → ∀ a w μ F, SimX cx nt E T H a w μ F → wpList cx.P ops Q l a w
  | [], i, T, H, hk, a, w, μ, F, s => hn _ _ _ _ _ _ hk s
  | o :: l, i, T, H, hk, a, w, μ, F, s => by
    rw [W_cons] at hk
    refine wpList_step fun Kk hKk => ?_
    exact W1_sound ok hk s (fun T' H' a' w' μ' F' k s' => hKk _ _ (W_sound ok hn hp l (i + 1) T' H' k a' w' μ' F' s')) (fun v T' H' w' μ' F' x k s' r => hp _ _ _ _ _ _ _ _ k s' r)
end
end Go.Eng
/- Soundness: operations whose order is not bound; each of the light ones by what it looks at. -/
namespace Go.Eng
/-- The continuation of f is taken at one value; whatever of the family F is asked for that value goes through. -/
def Det {α ι : Type} (pr : α → Prop) (f : (α → Prop) → Prop) (F : ι → (α → Prop) → Prop) : Prop := ∀ K, f K → ∃ a, pr a ∧ K a ∧ ∀ i K2, K2 a → F i K2
abbrev Any {α : Type} : α → Prop := fun _ => True
section
variable {α β ι : Type}
theorem Det.pure (a : α) : Det (ι := ι) Any (fun K => K a) (fun _ K => K a) := fun _ h => ⟨a, trivial, h, fun _ _ h => h⟩
theorem Det.no {pr : α → Prop} {f : (α → Prop) → Prop} {F : ι → (α → Prop) → Prop} (h : ∀ K, ¬ f K) : Det pr f F := fun K hk => (h K hk).elim
theorem Det.bind {pr : α → Prop} {f : (α → Prop) → Prop} {F : ι → (α → Prop) → Prop} (hf : Det pr f F) {pr2 : β → Prop} {g : α → (β → Prop) → Prop} {G : ι → α → (β → Prop) → Prop} (hg : ∀ a, pr a → Det pr2 (g a) (fun i => G i a)) :
    Det pr2 (fun K => f fun a => g a K) (fun i K => F i fun a => G i a K) := by
  intro K h
  obtain ⟨a, p, h, hF⟩ := hf _ h
  obtain ⟨b, p2, h, hG⟩ := hg a p K h
  exact ⟨b, p2, h, fun i K2 h2 => hF i _ (hG i K2 h2)⟩
theorem Det.map {pr : α → Prop} {f : (α → Prop) → Prop} {F : ι → (α → Prop) → Prop} (hf : Det pr f F) (g : α → β) : Det Any (fun K : β → Prop => f fun a => K (g a)) (fun i K => F i fun a => K (g a)) := by
  intro K h
  obtain ⟨a, _, h, hF⟩ := hf _ h
  exact ⟨g a, trivial, h, fun i K2 h2 => hF i _ h2⟩
theorem Det.and {P : Prop} {pr : α → Prop} {f : (α → Prop) → Prop} {F : ι → (α → Prop) → Prop} (hf : P → Det pr f F) : Det pr (fun K => P ∧ f K) (fun i K => P ∧ F i K) := by
  intro K ⟨p, h⟩
  obtain ⟨a, h0, h1, h2⟩ := hf p K h
  exact ⟨a, h0, h1, fun i K2 h => ⟨p, h2 i K2 h⟩⟩
theorem Det.any {pr : α → Prop} {f : (α → Prop) → Prop} {F : ι → (α → Prop) → Prop} (hf : Det pr f F) : Det Any f F := by
  intro K h
  obtain ⟨a, _, h1, h2⟩ := hf K h
  exact ⟨a, trivial, h1, h2⟩
theorem det_nthK (es : List (List AV)) (i : Nat) : Det (ι := ι) Any (nthK es i) (fun _ => nthK es i) := by
  unfold nthK; split
  · exact .pure _
  · exact .no fun _ h => h
theorem det_dropK : ∀ (n : Nat) (l : List AV), Det (ι := ι) Any (fun K => dropK n l K) (fun _ K => dropK n l K)
  | 0, l => by simp only [dropK]; exact .pure l
  | n + 1, _ :: l => by simp only [dropK]; exact det_dropK n l
  | n + 1, [] => by simp only [dropK]; exact .no fun _ h => h
theorem det_takeK : ∀ (n : Nat) (l : List AV), Det (ι := ι) Any (fun K => takeK n l K) (fun _ K => takeK n l K)
  | 0, l => by simp only [takeK]; exact .pure []
  | n + 1, c :: l => by simp only [takeK]; exact (det_takeK n l).map (c :: ·)
  | n + 1, [] => by simp only [takeK]; exact .no fun _ h => h
theorem det_asV (n : Nat) (b : Bool) (cs : List AV) : Det (ι := ι) Any (fun K => asV n b K cs) (fun _ K => asV n b K cs) := by
  unfold asV; split
  · exact (det_takeK n cs).map AV.agg
  · split
    · exact .pure _
    · exact .no fun _ h => h
theorem det_elemK (cx : Cx) (t : TypeId) (sz : Nat) (e : List AV) (j : Nat) : Det (ι := ι) Any (fun K => elemK cx t sz e j K) (fun _ K => elemK cx t sz e j K) := by
  unfold elemK; split
  · exact .no fun _ h => h
  · split
    · exact (det_dropK j e).bind fun a _ => det_asV _ _ a
    · split
      · split
        · exact .pure _
        · exact (det_takeK _ _).map AV.agg
      · exact (det_dropK _ e).bind fun a _ => (det_takeK _ a).map AV.agg
theorem det_updHead : ∀ (l e : List AV), Det (ι := ι) Any (fun K => updHead l e K) (fun _ K => updHead l e K)
  | [], e => by simp only [updHead]; exact .pure e
  | v :: l, _ :: e => by simp only [updHead]; exact (det_updHead l e).map (v :: ·)
  | _ :: _, [] => by simp only [updHead]; exact .no fun _ h => h
theorem det_updN : ∀ (n : Nat) (l e : List AV), Det (ι := ι) Any (fun K => updN n l e K) (fun _ K => updN n l e K)
  | 0, l, e => by simp only [updN]; exact det_updHead l e
  | n + 1, l, c :: e => by simp only [updN]; exact (det_updN n l e).map (c :: ·)
  | n + 1, _, [] => by simp only [updN]; exact .no fun _ h => h
theorem det_okCells {pr : α → Prop} {f : (α → Prop) → Prop} {F : ι → (α → Prop) → Prop} (hf : Det pr f F) : ∀ (l : List AV), Det pr (fun K => okCells l (f K)) (fun i K => okCells l (F i K))
  | [] => by simp only [okCells]; exact hf
  | v :: l => by
    simp only [okCells]
    split
    · exact det_okCells hf l
    · exact .no fun _ h => h
theorem det_idxK (i : Int) (n : Nat) : Det (ι := ι) Any (idxK i n) (fun _ => idxK i n) := by
  unfold idxK; split
  · exact .and fun _ => .pure _
  · exact .no fun _ h => h
theorem det_within (i : Int) (n : Nat) : Det (ι := ι) Any (within i n) (fun _ => within i n) := by
  unfold within; split
  · exact .and fun _ => .pure _
  · exact .no fun _ h => h
theorem det_asInt (x : AV) : Det (ι := ι) Any (asInt x) (fun _ => asInt x) := by
  unfold asInt; split
  · exact .pure _
  · exact .no fun _ h => h
theorem det_bMax (m : Option AV) (n : Nat) : Det (ι := ι) Any (bMax m n) (fun _ => bMax m n) := by
  unfold bMax; split
  · exact (det_asInt _).bind fun a _ => (det_within a n).map some
  · exact .pure _
theorem det_bHi (m : Option AV) (n c : Nat) : Det (ι := ι) Any (bHi m n c) (fun _ => bHi m n c) := by
  unfold bHi; split
  · exact (det_asInt _).bind fun a _ => det_within a c
  · exact .pure _
theorem det_bLo (m : Option AV) (n : Nat) : Det (ι := ι) Any (bLo m n) (fun _ => bLo m n) := by
  unfold bLo; split
  · exact (det_asInt _).bind fun a _ => det_within a n
  · exact .pure _
theorem det_bndK {pr : β → Prop} (lo hi mx : Option AV) (n cap : Nat) {g : Nat → Nat → Option Nat → (β → Prop) → Prop} {G : ι → Nat → Nat → Option Nat → (β → Prop) → Prop} (hg : ∀ a b c, Det pr (g a b c) (fun i => G i a b c)) :
    Det pr (fun K => bndK lo hi mx n cap fun a b c => g a b c K) (fun i K => bndK lo hi mx n cap fun a b c => G i a b c K) := by
  unfold bndK; split
  · exact .no fun _ h => h
  · exact (det_bMax _ _).bind fun _ _ => (det_bHi _ _ _).bind fun _ _ => (det_bLo _ _).bind fun _ _ => hg _ _ _
theorem det_rowFrom (r : Id) (o l h : Nat) (c : Option Nat) : Det (ι := ι) Any (fun K => rowFrom K r o l h c) (fun _ K => rowFrom K r o l h c) := by
  unfold rowFrom; split
  · exact .pure _
  · split <;> exact .pure _
theorem det_sliceF (sz : Nat) (lo hi mx : Option AV) (x : AV) : Det (ι := ι) Any (fun K => sliceF sz lo hi mx K x) (fun _ K => sliceF sz lo hi mx K x) := by
  unfold sliceF; split
  · split
    · exact det_bndK _ _ _ _ _ fun a b c => by split <;> exact .pure _
    · exact .no fun _ h => h
  · exact .no fun _ h => h
theorem det_fieldOff (d : TD) (f : Nat) : Det (ι := ι) Any (fieldOff d f) (fun _ => fieldOff d f) := by
  unfold fieldOff; split
  · split
    · exact .pure _
    · exact .no fun _ h => h
  · exact .no fun _ h => h
theorem det_fieldAddrK (off : Nat) (x : AV) : Det (ι := ι) Any (fun K => fieldAddrK off K x) (fun _ K => fieldAddrK off K x) := by
  unfold fieldAddrK; split
  · split <;> exact .pure _
  · split <;> exact .pure _
  · exact .no fun _ h => h
theorem det_lenK (d : TD) (x : AV) : Det (ι := ι) Any (fun K => lenK d K x) (fun _ K => lenK d K x) := by
  unfold lenK; split
  · split
    · exact .pure _
    · exact .no fun _ h => h
  · split
    · exact .pure _
    · exact .pure _
    · split
      · exact .pure _
      · exact .no fun _ h => h
    · exact .no fun _ h => h
  · exact .no fun _ h => h
theorem det_eqlB (op : BinOp) (b : Bool) : Det (ι := ι) Any (eqlB op b) (fun _ => eqlB op b) := by
  unfold eqlB; split
  · exact .pure _
  · exact .pure _
  · exact .no fun _ h => h
theorem det_nilK (d : TD) (c : Bool) (op : BinOp) (x y : AV) : Det (ι := ι) Any (fun K => nilK d c op K x y) (fun _ K => nilK d c op K x y) := by
  unfold nilK; split
  · split <;> first | exact det_eqlB _ _ | exact .no fun _ h => h
  · split
    · split
      · exact det_eqlB _ _
      · exact .no fun _ h => h
    · exact det_eqlB _ _
    · exact .no fun _ h => h
  · split <;> first | exact det_eqlB _ _ | exact .no fun _ h => h
  · exact .no fun _ h => h
theorem det_intK (op : BinOp) (k k' : IntKind) (a b : Int) : Det (ι := ι) Any (fun K => intK op K k k' a b) (fun _ K => intK op K k k' a b) := by
  unfold intK; split
  · exact .and fun _ => .pure _
  · exact .and fun _ => .pure _
  · split
    · exact .no fun _ h => h
    · split <;> first | exact .pure _ | exact .and fun _ => .pure _ | exact .no fun _ h => h
theorem det_binK (op : BinOp) (d : TD) (c : Bool) (x y : AV) : Det (ι := ι) Any (fun K => binK op d c K x y) (fun _ K => binK op d c K x y) := by
  unfold binK; split
  · split
    · exact det_intK _ _ _ _ _
    · exact .no fun _ h => h
  · split
    · split <;> first | exact .pure _ | exact .and fun _ => .pure _ | exact .no fun _ h => h
    · exact .no fun _ h => h
  · split
    · exact det_eqlB _ _
    · exact .no fun _ h => h
  · exact det_nilK _ _ _ _ _
theorem det_unK (op : UnOp) (x : AV) : Det (ι := ι) Any (fun K => unK op K x) (fun _ K => unK op K x) := by
  unfold unK; split <;> first | exact .pure _ | exact .no fun _ h => h
theorem det_nilCheckK (x : AV) : Det (ι := ι) Any (fun K => nilCheckK K x) (fun _ K => nilCheckK K x) := by
  unfold nilCheckK; split <;> first | exact .pure _ | exact .no fun _ h => h
theorem det_indexK (x y : AV) : Det (ι := ι) Any (fun K => indexK K x y) (fun _ K => indexK K x y) := by
  unfold indexK; split
  · exact (det_idxK _ _).map _
  · exact .no fun _ h => h
theorem det_extractK (i : Nat) (x : AV) : Det (ι := ι) Any (fun K => extractK i K x) (fun _ K => extractK i K x) := by
  unfold extractK; split
  · split
    · exact .pure _
    · exact .no fun _ h => h
  · exact .no fun _ h => h
theorem det_assertK (cx : Cx) (t : TypeId) (ok : Bool) (x : AV) : Det (ι := ι) Any (fun K => assertK cx t ok K x) (fun _ K => assertK cx t ok K x) := by
  unfold assertK; split
  · exact .no fun _ h => h
  · split
    · split
      · exact .pure _
      · exact .no fun _ h => h
    · split
      · exact .pure _
      · split
        · exact .pure _
        · exact .no fun _ h => h
    · exact .no fun _ h => h
theorem det_mmK (mx : Bool) (k : IntKind) : ∀ (l : List AV) (x : Int), Det (ι := ι) Any (fun K => mmK mx k K x l) (fun _ K => mmK mx k K x l)
  | [], x => by simp only [mmK]; exact .pure _
  | y :: l, x => by
    unfold mmK; split
    · rename_i h; cases h
    · rename_i h; cases h; split <;> exact det_mmK _ k _ _
    · exact .no fun _ h => h
theorem det_minmaxK (mx : Bool) (l : List AV) : Det (ι := ι) Any (fun K => minmaxK mx K l) (fun _ K => minmaxK mx K l) := by
  unfold minmaxK; split
  · exact det_mmK _ _ _ _
  · exact .no fun _ h => h
theorem det_buildSliceK (sz : Nat) : ∀ (l : List (Nat × AV)) (n : Nat), Det (ι := ι) Any (fun K => buildSliceK sz n l K) (fun _ K => buildSliceK sz n l K)
  | [], n => by simp only [buildSliceK]; exact .pure _
  | (i, v) :: l, n => by
    simp only [buildSliceK]; split
    · exact det_okCells ((det_buildSliceK sz l (n + 1)).map _) _
    · exact .no fun _ h => h
theorem det_fillK (offs : List (Nat × Nat)) : ∀ (l : List (Nat × AV)) (z : List AV), Det (ι := ι) Any (fun K => fillK offs l z K) (fun _ K => fillK offs l z K)
  | [], z => by simp only [fillK]; exact .pure _
  | (i, v) :: l, z => by
    simp only [fillK]; split
    · split
      · exact det_okCells ((det_updN _ _ _).bind fun a _ => det_fillK offs l a) _
      · exact .no fun _ h => h
    · exact .no fun _ h => h
end
end Go.Eng
/- Soundness: what a light operation does, wherever it looks at the same. -/
namespace Go.Eng
def putO (H : HH) (id : Id) : Option Row → HH | none => H | some r => H.put id r
/-- Another state in which the operation meets what it meets in T, H. -/
structure Alt (cx : Cx) (c : Nat) (xs : List Operand) (T : TT) (H : HH) where
  T2 : TT
  H2 : HH
  ht : ∀ x, x ∈ xs → ev cx T2 x = ev cx T x
  hh : c = 0 ∨ ∀ x, x ∈ xs → ∀ av r row, ev cx T x = some av → headId av = some r → H r = some row → H2 r = some row
def OpLoc (cx : Cx) (q : Bool) (c : Nat) (id : Id) (op : Op) (T : TT) (H : HH) (K : AV → HH → Prop) : Prop :=
  ∃ (v : AV) (u : Option Row), (u ≠ none → H id = none) ∧ (c ≠ 2 → u = none) ∧ K v (putO H id u) ∧
    ∀ (i : Alt cx c op.operands.toList T H) (K2 KP2 : AV → HH → Prop), (u ≠ none → i.H2 id = none) → K2 v (putO i.H2 id u) → opK cx q id op i.T2 i.H2 K2 KP2
section
variable {cx : Cx} {q : Bool} {c : Nat} {id : Id} {op : Op} {T : TT} {H : HH} {K KP : AV → HH → Prop}
theorem loc_val {g : (AV → Prop) → Prop} {G : Alt cx c op.operands.toList T H → (AV → Prop) → Prop} (hd : Det Any g G) (h : g fun v => K v H) (hG : ∀ i K2 KP2, G i (fun v => K2 v i.H2) → opK cx q id op i.T2 i.H2 K2 KP2) : OpLoc cx q c id op T H K := by
  obtain ⟨v, _, h1, h2⟩ := hd _ h
  exact ⟨v, none, fun h => absurd rfl h, fun _ => rfl, h1, fun i K2 KP2 _ hk => hG i K2 KP2 (h2 i _ hk)⟩
theorem loc_row {α : Type} {f : α → AV} {row : α → Row} {g : (α → Prop) → Prop} {G : Alt cx c op.operands.toList T H → (α → Prop) → Prop} (hd : Det Any g G) (hc : c = 2) (h : g fun a => fresh H id (K (f a) (H.put id (row a))))
    (hG : ∀ i K2 KP2, G i (fun a => fresh i.H2 id (K2 (f a) (i.H2.put id (row a)))) → opK cx q id op i.T2 i.H2 K2 KP2) : OpLoc cx q c id op T H K := by
  obtain ⟨v, _, h1, h2⟩ := hd _ h
  obtain ⟨h3, h4⟩ := fresh_iff h1
  refine ⟨f v, some (row v), fun _ => h3, fun h => absurd hc h, h4, fun i K2 KP2 hn hk => hG i K2 KP2 (h2 i _ ?_)⟩
  unfold fresh
  rw [hn (by simp)]
  exact hk
theorem det_withE {xs : List Operand} {x : Operand} (hx : x ∈ xs) : Det (fun v => ev cx T x = some v) (fun K => withE cx T x K) (fun (i : Alt cx c xs T H) K => withE cx i.T2 x K) := by
  intro K h
  unfold withE at h
  split at h
  · rename_i v hv
    refine ⟨v, hv, h, fun i K2 h2 => ?_⟩
    show withE cx i.T2 x K2
    unfold withE
    rw [i.ht x hx, hv]
    exact h2
  · exact h.elim
theorem det_evs {xs : List Operand} : ∀ (l : List Operand), (∀ x, x ∈ l → x ∈ xs) → Det Any (fun K => evs cx T l K) (fun (i : Alt cx c xs T H) K => evs cx i.T2 l K)
  | [], _ => by simp only [evs]; exact .pure _
  | x :: l, h => by
    simp only [evs]
    exact (det_withE (h x (by simp))).bind fun a _ => (det_evs l fun x hx => h x (by simp [hx])).map (a :: ·)
theorem det_partsK {xs : List Operand} : ∀ (l : List (Nat × Operand)), (∀ x, x ∈ l → x.2 ∈ xs) → Det Any (fun K => partsK cx T l K) (fun (i : Alt cx c xs T H) K => partsK cx i.T2 l K)
  | [], _ => by simp only [partsK]; exact .pure _
  | (n, x) :: l, h => by
    simp only [partsK]
    exact (det_withE (h (n, x) (by simp))).bind fun a _ => (det_partsK l fun x hx => h x (by simp [hx])).map ((n, a) :: ·)
theorem det_optE {xs : List Operand} (x : Option Operand) (h : ∀ y, x = some y → y ∈ xs) : Det Any (fun K => optE cx T x K) (fun (i : Alt cx c xs T H) K => optE cx i.T2 x K) := by
  unfold optE; split
  · exact (det_withE (h _ rfl)).map some
  · exact .pure _
theorem det_loadK {xs : List Operand} {t : TypeId} {x : Operand} {v : AV} (hx : x ∈ xs) (hv : ev cx T x = some v) (hc : c ≠ 0) : Det Any (fun K => loadK cx t H K v) (fun (i : Alt cx c xs T H) K => loadK cx t i.H2 K v) := by
  intro K h
  unfold loadK at h
  split at h
  · split at h
    rotate_left
    · exact h.elim
    rename_i r i j _ sz bs es hr
    obtain ⟨a, _, h1, h2⟩ := ((det_nthK (ι := Alt cx c xs T H) es i).bind fun e _ => det_elemK cx t sz e j) K h
    refine ⟨a, trivial, h1, fun i K2 hk => ?_⟩
    have := (i.hh.resolve_left hc) x hx _ _ _ hv rfl hr
    unfold loadK
    simp only [this]
    exact h2 i K2 hk
  · obtain ⟨hi, h⟩ := h
    obtain ⟨a, _, h1, h2⟩ := det_elemK (ι := Alt cx c xs T H) cx t _ _ _ K h
    exact ⟨a, trivial, h1, fun ii K2 hk => ⟨hi, h2 ii K2 hk⟩⟩
  · exact h.elim
theorem det_indexAddrK {xs : List Operand} {sz : Nat} {x : Operand} {v ix : AV} (hx : x ∈ xs) (hv : ev cx T x = some v) (hc : c ≠ 0) : Det Any (fun K => indexAddrK H K sz v ix) (fun (i : Alt cx c xs T H) K => indexAddrK i.H2 K sz v ix) := by
  intro K h
  unfold indexAddrK at h
  split at h
  rotate_left
  · exact h.elim
  split at h
  · split at h
    rotate_left
    · exact h.elim
    rename_i hb
    obtain ⟨a, _, h1, h2⟩ := ((det_idxK (ι := Alt cx c xs T H) _ _).map _) K h
    refine ⟨a, trivial, h1, fun i K2 hk => ?_⟩
    unfold indexAddrK; simp only [hb]; exact h2 i K2 hk
  · rename_i o _ _
    split at h
    rotate_left
    · exact h.elim
    rename_i hr
    split at h
    rotate_left
    · exact h.elim
    rename_i hb
    cases o <;>
    · obtain ⟨a, _, h1, h2⟩ := ((det_idxK (ι := Alt cx c xs T H) _ _).map _) K h
      refine ⟨a, trivial, h1, fun i K2 hk => ?_⟩
      have := (i.hh.resolve_left hc) x hx _ _ _ hv rfl hr
      unfold indexAddrK; simp only [this, hb]; exact h2 i K2 hk
  · split at h
    rotate_left
    · exact h.elim
    rename_i hu
    split at h
    rotate_left
    · exact h.elim
    rename_i hb
    obtain ⟨a, _, h1, h2⟩ := ((det_idxK (ι := Alt cx c xs T H) _ _).map _) K h
    refine ⟨a, trivial, h1, fun i K2 hk => ?_⟩
    unfold indexAddrK; simp only [hu, hb]; exact h2 i K2 hk
  · exact h.elim
theorem det_sliceK {xs : List Operand} {t : TypeId} {x : Operand} {v : AV} {lo hi mx : Option AV} (hx : x ∈ xs) (hv : ev cx T x = some v) (hc : c ≠ 0) : Det Any (fun K => sliceK cx t H lo hi mx K v) (fun (i : Alt cx c xs T H) K => sliceK cx t i.H2 lo hi mx K v) := by
  intro K h
  unfold sliceK at h
  split at h
  · rename_i ht
    split at h
    rotate_left
    · exact h.elim
    split at h
    rotate_left
    · exact h.elim
    obtain ⟨a, _, h1, h2⟩ := (det_bndK (ι := Alt cx c xs T H) lo hi none _ _ fun a b c => .pure _) K h
    refine ⟨a, trivial, h1, fun i K2 hk => ?_⟩
    unfold sliceK; simp only [ht]; exact h2 i K2 hk
  · rename_i ht
    split at h
    rotate_left
    · exact h.elim
    rename_i he
    split at h
    · obtain ⟨a, _, h1, h2⟩ := (det_sliceF (ι := Alt cx c xs T H) _ lo hi mx _) K h
      refine ⟨a, trivial, h1, fun i K2 hk => ?_⟩
      unfold sliceK; simp only [ht, he]; exact h2 i K2 hk
    · obtain ⟨a, _, h1, h2⟩ := (det_sliceF (ι := Alt cx c xs T H) _ lo hi mx _) K h
      refine ⟨a, trivial, h1, fun i K2 hk => ?_⟩
      unfold sliceK; simp only [ht, he]; exact h2 i K2 hk
    · split at h
      rotate_left
      · exact h.elim
      rename_i hr
      split at h
      rotate_left
      · exact h.elim
      rename_i hb
      obtain ⟨a, _, h1, h2⟩ := (Det.and fun _ => det_bndK (ι := Alt cx c xs T H) lo hi mx _ _ fun a b c => det_rowFrom _ _ _ _ _) K h
      refine ⟨a, trivial, h1, fun i K2 hk => ?_⟩
      have := (i.hh.resolve_left hc) x hx _ _ _ hv rfl hr
      unfold sliceK; simp only [ht, he, this, hb]; exact h2 i K2 hk
    · exact h.elim
  · exact h.elim
end
end Go.Eng

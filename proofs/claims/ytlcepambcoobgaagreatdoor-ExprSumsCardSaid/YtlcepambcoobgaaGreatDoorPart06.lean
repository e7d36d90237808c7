/- Part 6 of the proof of 'ExprSums': an engine for the program's code, and walks of its functions (V X Y). -/
import Derived.Test.YtlcepambcoobgaaGreatDoorPart05
import Derived.Orders
/- Soundness: every light operation by what it looks at. -/
namespace Go.Eng
section
variable {cx : Cx} {q : Bool} {id : Id} {T : TT} {H : HH} {K KP : AV → HH → Prop}
theorem convK_loc {c : Nat} {s d : TypeId} {x : Operand} {v : AV} (hx : ev cx T x = some v) (hc : c = 2 ∨ ∃ k n b z, cx.ty d = some ⟨.int k, n, b, z⟩) (h : convK cx id s d H K v) :
    OpLoc cx q c id (.convert s d x) T H K := by
  have hop : (Op.convert s d x).operands.toList = [x] := rfl
  have go : ∀ (i : Alt cx c (Op.convert s d x).operands.toList T H) (K2 KP2 : AV → HH → Prop), convK cx id s d i.H2 K2 v → opK cx q id (.convert s d x) i.T2 i.H2 K2 KP2 := by
    intro i K2 KP2 h
    unfold opK withE
    simp only [i.ht x (by rw [hop]; simp), hx]
    exact h
  have plain : ∀ a : AV, K a H → (∀ (H2 : HH) (K2 : AV → HH → Prop), (c ≠ 0 → ∀ r row, headId v = some r → H r = some row → H2 r = some row) → K2 a H2 → convK cx id s d H2 K2 v) → OpLoc cx q c id (.convert s d x) T H K := by
    intro a hk h
    refine ⟨a, none, fun h => absurd rfl h, fun _ => rfl, hk, fun i K2 KP2 _ h2 => go i K2 KP2 (h i.H2 K2 (fun hc0 r row h1 h2 => ?_) h2)⟩
    exact (i.hh.resolve_left hc0) x (by rw [hop]; simp) v r row hx h1 h2
  have hc' := hc
  unfold convK at h
  split at h
  rotate_left
  · exact h.elim
  rename_i ts _ _ _ td n2 b2 z2 hs hd
  split at h
  · split at h
    rotate_left
    · exact h.elim
    refine plain _ h fun H2 K2 _ h2 => ?_
    unfold convK; simp only [hs, hd]; exact h2
  · split at h
    · split at h
      rotate_left
      · exact h.elim
      refine plain _ h fun H2 K2 _ h2 => ?_
      unfold convK; simp only [hs, hd]; exact h2
    · split at h
      rotate_left
      · exact h.elim
      rename_i hu
      split at h
      · obtain ⟨hb, h⟩ := h
        refine plain _ h fun H2 K2 _ h2 => ?_
        unfold convK; simp only [hs, hd, hu]; exact ⟨hb, h2⟩
      · split at h
        rotate_left
        · exact h.elim
        rename_i hr
        obtain ⟨hb, h⟩ := h
        have hc0 : c ≠ 0 := by
          rcases hc with h | ⟨_, _, _, _, h⟩
          · omega
          · rw [hd] at h; cases h
        refine plain _ h fun H2 K2 hh h2 => ?_
        have := hh hc0 _ _ rfl hr
        unfold convK; simp only [hs, hd, hu, this]; exact ⟨hb, h2⟩
      · exact h.elim
    · exact h.elim
  · split at h
    rotate_left
    · exact h.elim
    split at h
    rotate_left
    · exact h.elim
    rename_i hu
    split at h
    rotate_left
    · exact h.elim
    obtain ⟨h3, h4⟩ := fresh_iff h
    have hc0 : c = 2 := by
      rcases hc with h | ⟨_, _, _, _, h⟩
      · exact h
      · rw [hd] at h; cases h
    refine ⟨_, some _, fun _ => h3, fun h => absurd hc0 h, h4, fun i K2 KP2 hn hk => go i K2 KP2 ?_⟩
    unfold convK; simp only [hs, hd, hu]
    unfold fresh
    rw [hn (by simp)]
    exact hk
  · exact h.elim
theorem opK_loc {op : Op} (hc : clsOf cx q op ≠ 3) (h : opK cx q id op T H K KP) : OpLoc cx q (clsOf cx q op) id op T H K := by
  generalize hcc : clsOf cx q op = c at hc
  unfold opK at h
  split at h
  · exact loc_val (c := c) ((det_withE (by simp [Op.operands])).any) h fun i K2 KP2 h => h
  · exact loc_val (c := c) ((det_withE (by simp [Op.operands])).any) h fun i K2 KP2 h => h
  · -- pick
    rename_i x y z
    refine loc_val (c := c) (g := fun K => withE cx T x fun v => match v with
      | .lit (.bool t) => Br t (fun _ => withE cx T y fun v => K v) (fun _ => withE cx T z fun v => K v)
      | _ => False) (G := fun i K => withE cx i.T2 x fun v => match v with
      | .lit (.bool t) => Br t (fun _ => withE cx i.T2 y fun v => K v) (fun _ => withE cx i.T2 z fun v => K v)
      | _ => False) ?_ h fun i K2 KP2 h => h
    refine (det_withE (by simp [Op.operands])).bind fun a _ => ?_
    split
    · unfold Br; split
      · exact (det_withE (by simp [Op.operands])).any
      · exact (det_withE (by simp [Op.operands])).any
    · exact .no fun _ h => h
  · -- alloc
    split at h
    rotate_left
    · exact h.elim
    rename_i ht
    simp only [clsOf] at hcc
    refine loc_row (c := c) (α := Unit) (f := fun _ => .ptr id 0 0) (row := fun _ => .cells _ _ [_]) (G := fun _ K => K ()) (.pure ()) (by omega) h fun i K2 KP2 h => ?_
    unfold opK; simp only [ht]; exact h
  · -- box
    rename_i t x
    obtain ⟨v, hv, h⟩ := withE_iff h
    split at h
    rotate_left
    · exact h.elim
    rename_i _ sz bs _ ht
    split at h
    rotate_left
    · exact h.elim
    rename_i hn
    simp only [clsOf] at hcc
    obtain ⟨hok, h⟩ := okCells_iff h
    have go : ∀ (i : Alt cx c (Op.box t x).operands.toList T H) (K2 KP2 : AV → HH → Prop), (BoxP (fresh i.H2 id (K2 (.ptr id 0 0) (i.H2.put id (.cells sz bs [cellsOf v])))) (idfL (cellsOf v) = true ∧ K2 (.fptr sz 1 (fun _ => cellsOf v) 0 0) i.H2)) → opK cx q id (.box t x) i.T2 i.H2 K2 KP2 := by
      intro i K2 KP2 h
      unfold opK withE
      simp only [i.ht x (by simp [Op.operands]), hv, ht, hn]
      exact okCells_of hok h
    rcases h with h | ⟨hi, h⟩
    · obtain ⟨h3, h4⟩ := fresh_iff h
      exact ⟨_, some _, fun _ => h3, fun h => by omega, h4, fun i K2 KP2 hn hk => go i K2 KP2 (.row (by unfold fresh; rw [hn (by simp)]; exact hk))⟩
    · exact ⟨_, none, fun h => absurd rfl h, fun _ => rfl, h, fun i K2 KP2 _ hk => go i K2 KP2 (.frz ⟨hi, hk⟩)⟩
  · -- build
    rename_i t ps
    split at h
    rotate_left
    · exact h.elim
    rename_i ht
    refine loc_val (c := c) ((det_partsK ps.toList fun x hx => ?_).bind fun a _ => (det_fillK _ a _).map AV.agg) h fun i K2 KP2 h => ?_
    · simp only [Op.operands, List.mem_map]; exact ⟨x, hx, rfl⟩
    · unfold opK; simp only [ht]; exact h
  · -- buildSlice
    rename_i t n ps
    split at h
    rotate_left
    · exact h.elim
    rename_i ht
    split at h
    rotate_left
    · exact h.elim
    rename_i _ sz bs _ he
    split at h
    rotate_left
    · exact h.elim
    rename_i h1 h2 h3
    simp only [clsOf] at hcc
    obtain ⟨es, _, h, hd⟩ := ((det_partsK (c := c) (H := H) (xs := (Op.buildSlice t n ps).operands.toList) ps.toList fun x hx => by simp only [Op.operands, List.mem_map]; exact ⟨x, hx, rfl⟩).bind fun a _ => det_buildSliceK _ a _) _ h
    have go : ∀ (i : Alt cx c (Op.buildSlice t n ps).operands.toList T H) (K2 KP2 : AV → HH → Prop), (BuildP (fresh i.H2 id (K2 (.row id 0 n none) (i.H2.put id (.cells sz bs es)))) (es.all idfL = true ∧ K2 (.fsl none sz bs n (fun i => es.getD i [])) i.H2)) → opK cx q id (.buildSlice t n ps) i.T2 i.H2 K2 KP2 := by
      intro i K2 KP2 h
      unfold opK; simp only [ht, he, h1, h2, h3]
      exact hd i _ h
    rcases h with h | ⟨hi, h⟩
    · obtain ⟨h3, h4⟩ := fresh_iff h
      exact ⟨_, some _, fun _ => h3, fun h => by omega, h4, fun i K2 KP2 hn hk => go i K2 KP2 (.row (by unfold fresh; rw [hn (by simp)]; exact hk))⟩
    · exact ⟨_, none, fun h => absurd rfl h, fun _ => rfl, h, fun i K2 KP2 _ hk => go i K2 KP2 (.frz ⟨hi, hk⟩)⟩
  · -- load
    rename_i t x
    obtain ⟨v, hv, h⟩ := withE_iff h
    simp only [clsOf] at hcc
    refine loc_val (c := c) (det_loadK (x := x) (by simp [Op.operands]) hv (by omega)) h fun i K2 KP2 h => ?_
    unfold opK withE
    simp only [i.ht x (by simp [Op.operands]), hv]; exact h
  · exact absurd (hcc.symm.trans rfl) hc
  · exact loc_val (c := c) ((det_withE (by simp [Op.operands])).bind fun a _ => det_nilCheckK a) h fun i K2 KP2 h => h
  · -- binOp
    rename_i op t x y z
    refine loc_val (c := c) (g := fun K => withE cx T x fun a => withE cx T y fun b => match cx.ty t with | some ⟨d, _, _, _⟩ => binK op d (isCst x || isCst y) K a b | none => False) (G := fun i K => withE cx i.T2 x fun a => withE cx i.T2 y fun b => match cx.ty t with | some ⟨d, _, _, _⟩ => binK op d (isCst x || isCst y) K a b | none => False) ((det_withE (by simp [Op.operands])).bind fun a _ => (det_withE (by simp [Op.operands])).bind fun b _ => ?_) h fun i K2 KP2 h => h
    split
    · exact det_binK _ _ _ _ _
    · exact .no fun _ h => h
  · exact loc_val (c := c) ((det_withE (by simp [Op.operands])).bind fun a _ => det_unK _ a) h fun i K2 KP2 h => h
  · -- convert
    rename_i s d x
    obtain ⟨v, hv, h⟩ := withE_iff h
    refine convK_loc hv ?_ h
    simp only [clsOf] at hcc
    split at hcc
    · exact .inr ⟨_, _, _, _, ‹_›⟩
    · exact .inl (by omega)
  · -- makeInterface
    rename_i t x
    obtain ⟨v, hv, h⟩ := withE_iff h
    have e : ∀ (i : Alt cx c (Op.makeInterface t x).operands.toList T H) (K2 KP2 : AV → HH → Prop), (match cx.ty t with | some ⟨.iface, _, _, _⟩ => False | some _ => K2 (.ifc t v) i.H2 | none => False) → opK cx q id (.makeInterface t x) i.T2 i.H2 K2 KP2 := by
      intro i K2 KP2 h
      unfold opK withE
      simp only [i.ht x (by simp [Op.operands]), hv]; exact h
    split at h
    · exact h.elim
    · rename_i d hd ht
      refine loc_val (c := c) (G := fun _ K => K (.ifc t v)) (.pure (AV.ifc t v)) h fun i K2 KP2 h => e i K2 KP2 ?_
      rw [ht]
      split
      · rename_i h1; cases h1; exact (hd _ _ _ rfl).elim
      · exact h
      · rename_i h1; cases h1
    · exact h.elim
  · -- makeFunc
    rename_i fn a b
    exact loc_val (c := c) ((det_evs a.toList fun x hx => by simp [Op.operands]; exact .inl (by simpa using hx)).bind fun l _ => (det_evs b.toList fun x hx => by simp [Op.operands]; exact .inr (by simpa using hx)).map fun m => AV.clo fn l m) h fun i K2 KP2 h => h
  · -- makeSlice
    rename_i t l n
    obtain ⟨a, ha, h⟩ := withE_iff h
    obtain ⟨b, hb, h⟩ := withE_iff h
    unfold makeSliceK at h
    split at h
    rotate_left
    · exact h.elim
    rename_i ht
    split at h
    rotate_left
    · exact h.elim
    rename_i he
    simp only [clsOf] at hcc
    unfold asInt at h
    split at h
    rotate_left
    · exact h.elim
    split at h
    rotate_left
    · exact h.elim
    split at h
    rotate_left
    · exact h.elim
    refine loc_row (c := c) (α := Unit) (f := fun _ => .row id 0 _ none) (row := fun _ => .cells _ _ (List.replicate _ _)) (Det.and fun _ => .pure ()) (by omega) h fun i K2 KP2 h => ?_
    unfold opK withE makeSliceK asInt
    simp only [i.ht l (by simp [Op.operands]), i.ht n (by simp [Op.operands]), ha, hb, ht, he]; exact h
  · -- slice
    rename_i t x lo hi mx
    obtain ⟨v, hv, h⟩ := withE_iff h
    simp only [clsOf] at hcc
    refine loc_val (c := c) (g := fun K => optE cx T lo fun lo => optE cx T hi fun hi => optE cx T mx fun mx => sliceK cx t H lo hi mx K v) ((det_optE lo ?_).bind fun a _ => (det_optE hi ?_).bind fun b _ => (det_optE mx ?_).bind fun d _ => det_sliceK (x := x) (by simp [Op.operands]) hv (by omega)) h fun i K2 KP2 h => ?_
    · intro y hy; subst hy; simp [Op.operands]
    · intro y hy; subst hy; simp [Op.operands]
    · intro y hy; subst hy; simp [Op.operands]
    · unfold opK withE
      simp only [i.ht x (by simp [Op.operands]), hv]; exact h
  · -- fieldAddr
    rename_i t x f
    refine loc_val (c := c) (g := fun K => withE cx T x fun v => match cx.ty t with | some ⟨d, _, _, _⟩ => fieldOff d f fun off => fieldAddrK off K v | none => False) (G := fun i K => withE cx i.T2 x fun v => match cx.ty t with | some ⟨d, _, _, _⟩ => fieldOff d f fun off => fieldAddrK off K v | none => False) ((det_withE (by simp [Op.operands])).bind fun a _ => ?_) h fun i K2 KP2 h => h
    split
    · exact (det_fieldOff _ _).bind fun o _ => det_fieldAddrK o a
    · exact .no fun _ h => h
  · -- indexAddr
    rename_i t x n
    obtain ⟨v, hv, h⟩ := withE_iff h
    obtain ⟨b, hb, h⟩ := withE_iff h
    simp only [clsOf] at hcc
    split at h
    rotate_left
    · exact h.elim
    rename_i ht
    split at h
    rotate_left
    · exact h.elim
    rename_i he
    refine loc_val (c := c) (det_indexAddrK (x := x) (by simp [Op.operands]) hv (by omega)) h fun i K2 KP2 h => ?_
    unfold opK withE
    simp only [i.ht x (by simp [Op.operands]), i.ht n (by simp [Op.operands]), hv, hb, ht, he]; exact h
  · -- index
    rename_i t x n
    refine loc_val (c := c) (g := fun K => withE cx T x fun v => withE cx T n fun ix => match cx.ty t with | some ⟨.string, _, _, _⟩ => indexK K v ix | _ => False) (G := fun i K => withE cx i.T2 x fun v => withE cx i.T2 n fun ix => match cx.ty t with | some ⟨.string, _, _, _⟩ => indexK K v ix | _ => False) ((det_withE (by simp [Op.operands])).bind fun a _ => (det_withE (by simp [Op.operands])).bind fun b _ => ?_) h fun i K2 KP2 h => h
    split
    · exact det_indexK _ _
    · exact .no fun _ h => h
  · exact loc_val (c := c) ((det_withE (by simp [Op.operands])).bind fun a _ => det_extractK _ a) h fun i K2 KP2 h => h
  · -- typeAssert
    rename_i x _ t ok
    refine loc_val (c := c) (g := fun K => withE cx T x fun v => match cx.ty t with | some ⟨.iface, _, _, _⟩ => False | some _ => assertK cx t ok K v | none => False) (G := fun i K => withE cx i.T2 x fun v => match cx.ty t with | some ⟨.iface, _, _, _⟩ => False | some _ => assertK cx t ok K v | none => False) ((det_withE (by simp [Op.operands])).bind fun a _ => ?_) h fun i K2 KP2 h => h
    split
    · exact .no fun _ h => h
    · exact det_assertK _ _ _ _
    · exact .no fun _ h => h
  · -- call
    rename_i cl
    obtain ⟨callee, args, argTypes⟩ := cl
    have hin : ∀ x, x ∈ args.toList → x ∈ (Op.call ⟨callee, args, argTypes⟩).operands.toList := by
      intro x hx
      cases callee <;> simp [Op.operands, Call.operands] <;> first | (exact .inr (by simpa using hx)) | (simpa using hx)
    unfold callK at h
    simp only at h
    cases callee with
    | builtin b =>
      have pass : ∀ (f : List AV → (AV → Prop) → Prop), (∀ l, Det (ι := Alt cx c (Op.call ⟨.builtin b, args, argTypes⟩).operands.toList T H) Any (f l) (fun _ => f l)) → (evs cx T args.toList fun args => f args fun v => K v H) →
          (∀ T2 H2 (K2 KP2 : AV → HH → Prop), (evs cx T2 args.toList fun args => f args fun v => K2 v H2) → opK cx q id (.call ⟨.builtin b, args, argTypes⟩) T2 H2 K2 KP2) → OpLoc cx q c id (.call ⟨.builtin b, args, argTypes⟩) T H K := by
        intro f hf h he
        exact loc_val (c := c) ((det_evs args.toList hin).bind fun l _ => hf l) h fun i K2 KP2 h => he _ _ _ _ h
      cases b <;> simp only at h <;> first
        | exact absurd (hcc.symm.trans rfl) hc
        | skip
      · refine pass (fun args K => match argTypes.toList, args with | t :: _, [x] => (match cx.ty t with | some ⟨d, _, _, _⟩ => lenK d K x | none => False) | _, _ => False) (fun l => ?_) h fun T2 H2 K2 KP2 h => h
        split
        · split
          · exact det_lenK _ _
          · exact .no fun _ h => h
        · exact .no fun _ h => h
      all_goals first
        | exact pass (fun args K => minmaxK false K args) (fun l => det_minmaxK _ _) h fun T2 H2 K2 KP2 h => h
        | exact pass (fun args K => minmaxK true K args) (fun l => det_minmaxK _ _) h fun T2 H2 K2 KP2 h => h
    | value f =>
      cases q with
      | false => exact absurd (hcc.symm.trans rfl) hc
      | true =>
        simp only at h
        have hf : f ∈ (Op.call ⟨.value f, args, argTypes⟩).operands.toList := by simp [Op.operands, Call.operands]
        obtain ⟨l, _, h, hl⟩ := det_evs (c := c) (H := H) (xs := (Op.call ⟨.value f, args, argTypes⟩).operands.toList) args.toList hin _ h
        split at h
        rotate_left
        · exact h.elim
        rename_i g first cap he
        obtain ⟨args0, v, h1, h2, h3⟩ := h
        refine ⟨v, none, fun h => absurd rfl h, fun _ => rfl, h3, fun i K2 KP2 _ hk => ?_⟩
        unfold opK callK
        simp only
        refine hl i _ ?_
        rw [i.ht f hf, he]
        exact ⟨args0, v, h1, h2, hk⟩
    | invoke f name =>
      cases q with
      | false => exact absurd (hcc.symm.trans rfl) hc
      | true =>
        simp only at h
        have hf : f ∈ (Op.call ⟨.invoke f name, args, argTypes⟩).operands.toList := by simp [Op.operands, Call.operands]
        obtain ⟨l, _, h, hl⟩ := det_evs (c := c) (H := H) (xs := (Op.call ⟨.invoke f name, args, argTypes⟩).operands.toList) args.toList hin _ h
        obtain ⟨vv, hv, h⟩ := withE_iff h
        split at h
        rotate_left
        · exact h.elim
        split at h
        rotate_left
        · exact h.elim
        rename_i hm
        obtain ⟨args0, v, h1, h2, h3⟩ := h
        refine ⟨v, none, fun h => absurd rfl h, fun _ => rfl, h3, fun i K2 KP2 _ hk => ?_⟩
        unfold opK callK
        simp only
        refine hl i _ ?_
        unfold withE
        rw [i.ht f hf, hv]
        simp only [hm]
        exact ⟨args0, v, h1, h2, hk⟩
  all_goals first
    | exact absurd (hcc.symm.trans rfl) hc
    | exact h.elim
end
end Go.Eng
/- Soundness: operations in other orders. -/
namespace Go.Eng
section
variable {cx : Cx}
theorem withE_congr {T T2 : TT} {x : Operand} (h : ev cx T2 x = ev cx T x) : withE cx T2 x = withE cx T x := by
  unfold withE; rw [h]
theorem evs_congr {T T2 : TT} : ∀ {l : List Operand}, (∀ x, x ∈ l → ev cx T2 x = ev cx T x) → evs cx T2 l = evs cx T l
  | [], _ => rfl
  | x :: l, h => by
    funext k
    simp only [evs]
    rw [withE_congr (h x (by simp)), evs_congr fun y hy => h y (by simp [hy])]
theorem partsK_congr {T T2 : TT} : ∀ {l : List (Nat × Operand)}, (∀ x, x ∈ l → ev cx T2 x.2 = ev cx T x.2) → partsK cx T2 l = partsK cx T l
  | [], _ => rfl
  | (n, x) :: l, h => by
    funext k
    simp only [partsK]
    rw [withE_congr (h (n, x) (by simp)), partsK_congr fun y hy => h y (by simp [hy])]
theorem optE_congr {T T2 : TT} {x : Option Operand} (h : ∀ y, x = some y → ev cx T2 y = ev cx T y) : optE cx T2 x = optE cx T x := by
  funext k
  unfold optE
  cases x with
  | none => rfl
  | some x => simp only; rw [withE_congr (h x rfl)]
theorem opK_congr {q : Bool} {id : Id} {op : Op} {T T2 : TT} {H : HH} {K KP : AV → HH → Prop} (h : ∀ x, x ∈ op.operands.toList → ev cx T2 x = ev cx T x) : opK cx q id op T2 H K KP = opK cx q id op T H K KP := by
  unfold opK
  cases op <;> (try simp only) <;> (try simp only [Op.operands, List.mem_cons, List.not_mem_nil, or_false, forall_eq_or_imp, forall_eq] at h) <;> first
    | rfl
    | rw [withE_congr h]
    | (rw [withE_congr h.1, withE_congr h.2]; done)
    | skip
  case pick => rw [withE_congr h.1, withE_congr h.2.1, withE_congr h.2.2]
  case makeMap t r => cases r <;> rfl
  case mapUpdate => rw [withE_congr h.1, withE_congr h.2.1, withE_congr h.2.2]
  case insert => rw [withE_congr h.1, withE_congr h.2.1, withE_congr h.2.2]
  case build => rw [partsK_congr fun x hx => h x.2 (List.mem_map.2 ⟨x, hx, rfl⟩)]
  case buildSlice => rw [partsK_congr fun x hx => h x.2 (List.mem_map.2 ⟨x, hx, rfl⟩)]
  case makeFunc a b => rw [evs_congr fun x hx => h x (by simp; exact .inl (by simpa using hx)), evs_congr (l := b.toList) fun x hx => h x (by simp; exact .inr (by simpa using hx))]
  case slice t x lo hi mx =>
    rw [withE_congr (h x (by simp)), optE_congr (x := lo) fun y hy => h y (by subst hy; simp), optE_congr (x := hi) fun y hy => h y (by subst hy; simp), optE_congr (x := mx) fun y hy => h y (by subst hy; simp)]
  case call c =>
    obtain ⟨callee, args, argTypes⟩ := c
    unfold callK
    cases callee with
    | builtin b => simp only; rw [evs_congr fun x hx => h x (by simpa [Call.operands] using hx)]
    | value f => simp only; rw [evs_congr fun x hx => h x (by simp [Call.operands]; exact .inr (by simpa using hx)), h f (by simp [Call.operands])]
    | invoke f n => simp only; rw [evs_congr fun x hx => h x (by simp [Call.operands]; exact .inr (by simpa using hx)), withE_congr (h f (by simp [Call.operands]))]
theorem det_storeK (H : HH) (v x : AV) : Det (ι := Unit) Any (fun K => storeK H v K x) (fun _ K => storeK H v K x) := by
  unfold storeK
  split
  · split
    · refine det_okCells ((det_nthK _ _).bind fun e _ => (det_updN _ _ _).bind fun e' _ => ?_) _
      split <;> exact .pure _
    · exact .no fun _ h => h
  · exact .no fun _ h => h
/-- A predicate transformer keeps what follows. -/
def Mon {α : Type} (f : (α → Prop) → Prop) : Prop := ∀ K K' : α → Prop, (∀ a, K a → K' a) → f K → f K'
theorem Mon.pure {α : Type} (a : α) : Mon (fun K => K a) := fun _ _ hk h => hk _ h
theorem Mon.no {α : Type} : Mon (fun _ : α → Prop => False) := fun _ _ _ h => h
theorem Mon.and {α : Type} {P : Prop} {f : (α → Prop) → Prop} (h : Mon f) : Mon (fun K => P ∧ f K) := fun _ _ hk h' => ⟨h'.1, h _ _ hk h'.2⟩
theorem Mon.or {α : Type} {f g : (α → Prop) → Prop} (h : Mon f) (h2 : Mon g) : Mon (fun K => f K ∨ g K) := fun _ _ hk h' => h'.imp (h _ _ hk) (h2 _ _ hk)
theorem Mon.app {α : Type} {f g : (α → Prop) → Prop} (h : Mon f) (h2 : Mon g) : Mon (fun K => AppP (f K) (g K)) := fun _ _ hk h' => by
  cases h' with
  | fit h' => exact .fit (h _ _ hk h')
  | grow h' => exact .grow (h2 _ _ hk h')
theorem Mon.fresh {α : Type} {H : HH} {id : Id} {f : (α → Prop) → Prop} (h : Mon f) : Mon (fun K => fresh H id (f K)) := by
  unfold Eng.fresh; split
  · exact h
  · exact .no
theorem Mon.bind {α β : Type} {f : (α → Prop) → Prop} (hf : Mon f) {g : α → (β → Prop) → Prop} (hg : ∀ a, Mon (g a)) : Mon (fun K => f fun a => g a K) := fun _ _ hk h => hf _ _ (fun a h => hg a _ _ hk h) h
theorem mon_contentK (H : HH) (sz : Nat) (x : AV) : Mon (fun K : Nat × List (List AV) → Prop => contentK H sz (fun n l => K (n, l)) x) := by
  unfold contentK
  split
  · split
    · split
      · split
        · exact .pure _
        · exact .and (.pure _)
      · exact .no
    · exact .no
  · split
    · exact .pure _
    · split
      · exact .pure _
      · exact .no
  · split
    · split
      · exact .pure _
      · exact .no
    · exact .no
  · split
    · exact .pure _
    · exact .no
  · exact .no
theorem mon_appendTo (sz bs : Nat) (id : Id) (H : HH) (m : Nat) (xs : List (List AV)) (x : AV) : Mon (fun K : AV × HH → Prop => appendTo sz bs id H m xs (fun v H' => K (v, H')) x) := by
  unfold appendTo
  split
  · exact .and (.fresh (.pure _))
  · split
    · exact .and (.fresh (.pure _))
    · exact .no
  · split
    · split
      · exact .app (.and (.pure _)) (.and (.fresh (.pure _)))
      · exact .no
    · exact .no
  · split
    · split
      · exact .and (.fresh (.pure _))
      · exact .no
    · exact .no
  · exact .no
theorem mon_appendK (cx : Cx) (id : Id) (t t2 : TypeId) (H : HH) (s x : AV) : Mon (fun K : AV × HH → Prop => appendK cx id t t2 H (fun v H' => K (v, H')) s x) := by
  unfold appendK
  split
  · split
    · split
      · split
        · exact (mon_contentK H _ x).bind fun a => mon_appendTo _ _ _ _ a.1 a.2 _
        · exact (mon_contentK H _ x).bind fun a => mon_appendTo _ _ _ _ a.1 a.2 _
        · exact .no
      · exact .no
    · exact .no
  · exact .no
theorem mon_copyK (cx : Cx) (t : TypeId) (H : HH) (d x : AV) : Mon (fun K : AV × HH → Prop => copyK cx t H (fun v H' => K (v, H')) d x) := by
  unfold copyK
  split
  · split
    · split
      · split
        · split
          · exact .and fun K K' hk h => mon_contentK H _ x (fun a => K (.lit (.int .i64 (min a.1 _ : Nat)), H.put _ (.cells _ _ (over _ _ (a.2.take _))))) _ (fun a h => hk _ h) h
          · exact .no
        · exact .no
      · exact .no
    · exact .no
  · exact .no
theorem mon_clearK (cx : Cx) (t : TypeId) (H : HH) (d : AV) : Mon (fun K : AV × HH → Prop => clearK cx t H (fun v H' => K (v, H')) d) := by
  unfold clearK
  split
  · split
    · split
      · split
        · split
          · exact .and (.pure _)
          · exact .no
        · exact .no
      · exact .no
    · exact .no
  · exact .no
theorem mon_lookRes (cx : Cx) (e : TypeId) (ok : Bool) (o : Option AV) : Mon (fun K : AV → Prop => lookRes cx e ok K o) := by
  unfold lookRes
  split
  · split <;> exact .pure _
  · split
    · split <;> exact .pure _
    · exact .no
theorem mon_lookupK (cx : Cx) (t : TypeId) (ok : Bool) (H : HH) (m x : AV) : Mon (fun K : AV → Prop => lookupK cx t ok H K m x) := by
  unfold lookupK
  split
  · split
    · split
      · split
        · exact fun K K' hk ⟨o, h1, h2⟩ => ⟨o, h1, mon_lookRes _ _ _ _ _ _ hk h2⟩
        · exact .no
      · exact mon_lookRes _ _ _ _
      · exact .no
    · exact .no
  · exact .no
theorem mon_mapUpdateK (cx : Cx) (t : TypeId) (H : HH) (m x v : AV) : Mon (fun K : HH → Prop => mapUpdateK cx t H K m x v) := by
  unfold mapUpdateK
  split
  · split
    · split
      · split
        · exact fun K K' hk ⟨o, h1, h2⟩ => ⟨o, h1, hk _ h2⟩
        · exact .no
      · exact .no
    · exact .no
  · exact .no
theorem CallW_mono {q : Bool} {f : FuncId} {args : List AV} {H : HH} {K K' KP KP' : AV → HH → Prop} (hk : ∀ v H', K v H' → K' v H') (hp : ∀ v H', KP v H' → KP' v H') (h : CallW cx q f args H K KP) : CallW cx q f args H K' KP' := by
  replace h := h.h
  refine ⟨?_⟩
  cases q
  rotate_left
  · obtain ⟨a, v, h1, h2, h3⟩ := h
    exact ⟨a, v, h1, h2, hk _ _ h3⟩
  · obtain ⟨Post, h1, h2⟩ := h
    refine ⟨Post, h1, fun o H' ho => ?_⟩
    have := h2 o H' ho
    cases o with
    | ret v => exact hk _ _ this
    | pan v => exact hp _ _ this
theorem withE_mono {T : TT} {x : Operand} {k k' : AV → Prop} (hk : ∀ v, k v → k' v) (h : withE cx T x k) : withE cx T x k' := by
  unfold withE at *
  generalize ev cx T x = y at *
  cases y with
  | none => exact h
  | some v => exact hk _ h
theorem evs_mono {T : TT} : ∀ {l : List Operand} {k k' : List AV → Prop}, (∀ v, k v → k' v) → evs cx T l k → evs cx T l k'
  | [], _, _, hk, h => hk _ h
  | _ :: _, _, _, hk, h => by
    simp only [evs] at *
    exact withE_mono (fun v h => evs_mono (fun l h => hk _ h) h) h
theorem opK_mono {q : Bool} {id : Id} {op : Op} {T : TT} {H : HH} {K K' KP KP' : AV → HH → Prop} (hk : ∀ v H', K v H' → K' v H') (hp : ∀ v H', KP v H' → KP' v H') (h : opK cx q id op T H K KP) : opK cx q id op T H K' KP' := by
  by_cases hc : clsOf cx q op = 3
  · unfold opK at h ⊢
    split at h
    case h_9 => -- store
      refine withE_mono (fun p h => withE_mono (fun v h => ?_) h) h
      split at h
      · split at h
        · obtain ⟨H', _, h1, h2⟩ := det_storeK _ _ _ _ h
          exact h2 () _ (hk _ _ h1)
        · exact h
      · exact h
    case h_23 => -- call
      rename_i c
      obtain ⟨callee, args, argTypes⟩ := c
      unfold callK at *
      refine evs_mono (fun l h => ?_) h
      cases callee with
      | builtin b =>
        cases b <;> simp only [clsOf] at hc <;> first | exact h.elim | contradiction | skip
        · simp only at h ⊢
          split at h
          · exact mon_appendK _ _ _ _ _ _ _ (fun p => K p.1 p.2) (fun p => K' p.1 p.2) (fun p h => hk _ _ h) h
          · exact h
        · simp only at h ⊢
          split at h
          · exact mon_clearK _ _ _ _ (fun p => K p.1 p.2) (fun p => K' p.1 p.2) (fun p h => hk _ _ h) h
          · exact h
        · simp only at h ⊢
          split at h
          · exact mon_copyK _ _ _ _ _ (fun p => K p.1 p.2) (fun p => K' p.1 p.2) (fun p h => hk _ _ h) h
          · exact h
      | value f =>
        simp only at h ⊢
        split at h
        · exact CallW_mono hk hp h
        · exact h
      | invoke f n =>
        simp only at h ⊢
        refine withE_mono (fun v h => ?_) h
        split at h
        · split at h
          · exact CallW_mono hk hp h
          · exact h
        · exact h
    case h_24 => -- panic
      refine withE_mono (fun v h => ?_) h
      split at h
      · exact hp _ _ h
      · exact h
    case h_25 => -- makeMap
      exact Mon.fresh (f := fun K : HH → Prop => K _) (.pure _) (fun H' => K (.mref id) H') (fun H' => K' (.mref id) H') (fun _ h => hk _ _ h) h
    case h_26 => -- lookup
      refine withE_mono (fun m h => withE_mono (fun v h => ?_) h) h
      exact mon_lookupK _ _ _ _ _ _ (fun r => K r H) (fun r => K' r H) (fun _ h => hk _ _ h) h
    case h_27 => -- mapUpdate
      refine withE_mono (fun m h => withE_mono (fun v h => withE_mono (fun z h => ?_) h) h) h
      exact mon_mapUpdateK _ _ _ _ _ _ (fun H' => K skipV H') (fun H' => K' skipV H') (fun _ h => hk _ _ h) h
    case h_28 => -- insert
      refine withE_mono (fun m h => withE_mono (fun v h => withE_mono (fun z h => ?_) h) h) h
      exact mon_mapUpdateK _ _ _ _ _ _ (fun H' => K skipV H') (fun H' => K' skipV H') (fun _ h => hk _ _ h) h
    case h_29 => -- range
      refine withE_mono (fun v h => ?_) h
      unfold rangeK at h ⊢
      split at h
      · exact Mon.fresh (f := fun K : HH → Prop => K _) (.pure _) (fun H' => K (.ptr id 0 0) H') (fun H' => K' (.ptr id 0 0) H') (fun _ h => hk _ _ h) h
      · exact h.elim
    case h_30 => -- next
      refine withE_mono (fun v h => ?_) h
      unfold nextK at h ⊢
      split at h
      · split at h
        · unfold Br at h ⊢
          split at h
          · exact hk _ _ h
          · exact hk _ _ h
        · exact h.elim
      · exact h.elim
    all_goals first
      | exact h.elim
      | (simp only [clsOf] at hc; first | contradiction | (split at hc <;> contradiction))
  · obtain ⟨v, u, h1, h2, h3, h4⟩ := opK_loc hc h
    exact h4 ⟨T, H, fun _ _ => rfl, .inr fun _ _ _ _ _ _ _ h => h⟩ K' KP' h1 (hk _ _ h3)
end
end Go.Eng
/- Soundness: regions whose operations come in any order. -/
namespace Go.Eng
def updT (dst : Option Nat) (v : Option AV) (T : TT) : TT := match dst with | none => T | some d => match v with | some v => T.put d v | none => T.put d skipV
def idOf (g : Nat) (o : Oper) : Id := (g, o.dst.getD 1000000, 0)
section
variable {cx : Cx} {nt g : Nat} {ops : Array Oper}
theorem updT_ne {dst : Option Nat} {v : Option AV} {T : TT} {t : Nat} (h : dst ≠ some t) : updT dst v T t = T t := by
  unfold updT
  split
  · rfl
  · split
    · exact TT.put_ne _ _ fun e => h (by rw [e])
    · exact TT.put_ne _ _ fun e => h (by rw [e])
theorem updT_comm {a b : Option Nat} {u v : Option AV} {T : TT} (h : ∀ d, a = some d → b ≠ some d) : updT a u (updT b v T) = updT b v (updT a u T) := by
  funext t
  by_cases ha : a = some t
  · have hb : b ≠ some t := h t ha
    rw [updT_ne (dst := b) hb]
    subst ha
    unfold updT
    cases u <;> simp [TT.put_same, TT.del_same]
  · rw [updT_ne ha]
    by_cases hb : b = some t
    · subst hb
      unfold updT
      cases v <;> simp [TT.put_same, TT.del_same]
    · rw [updT_ne hb, updT_ne hb, updT_ne ha]
theorem ev_names {T T2 : TT} {o : Oper} (h : ∀ t, t ∈ namesOf ops o → T2 t = T t) : ∀ x, x ∈ o.op.operands.toList → ev cx T2 x = ev cx T x := by
  intro x hx
  cases x with
  | tmp t =>
    refine h t ?_
    unfold namesOf
    exact List.mem_append_left _ (List.mem_filterMap.2 ⟨_, hx, rfl⟩)
  | const => rfl
  | func => rfl
  | global => rfl
theorem head_names {T : TT} {o : Oper} {H H2 : HH} (h : ∀ t, t ∈ namesOf ops o → ∀ av r row, T t = some av → headId av = some r → H r = some row → H2 r = some row) :
    ∀ x, x ∈ o.op.operands.toList → ∀ av r row, ev cx T x = some av → headId av = some r → H r = some row → H2 r = some row := by
  intro x hx av r row hv hr
  cases x with
  | tmp t =>
    refine h t ?_ av r row hv hr
    unfold namesOf
    exact List.mem_append_left _ (List.mem_filterMap.2 ⟨_, hx, rfl⟩)
  | const v =>
    simp only [ev] at hv
    unfold constAV at hv
    split at hv
    · split at hv <;> cases hv <;> cases hr
    · unfold constA1 at hv
      split at hv <;> (try split at hv) <;> cases hv <;> cases hr
  | func f => simp only [ev] at hv; cases hv; cases hr
  | global g => simp only [ev] at hv; split at hv <;> cases hv; cases hr
/-- A light operation, in whatever state that shows it the same. -/
theorem W1_loc {quiet : Bool} {o : Oper} {T : TT} {H : HH} {K : TT → HH → Prop} {KP : AV → TT → HH → Prop} (hc : clsOf cx quiet o.op ≠ 3) (h : W1 cx nt g quiet ops o T H K KP) :
    ∃ (v : Option AV) (u : Option Row), (u ≠ none → H (idOf g o) = none) ∧ (clsOf cx quiet o.op ≠ 2 → u = none) ∧ K (updT o.dst v T) (putO H (idOf g o) u) ∧
      ∀ (T2 : TT) (H2 : HH) (K2 : TT → HH → Prop) (KP2 : AV → TT → HH → Prop), (∀ t, t ∈ namesOf ops o → T2 t = T t) →
        (clsOf cx quiet o.op = 0 ∨ ∀ t, t ∈ namesOf ops o → ∀ av r row, T t = some av → headId av = some r → H r = some row → H2 r = some row) →
        (u ≠ none → H2 (idOf g o) = none) → K2 (updT o.dst v T2) (putO H2 (idOf g o) u) → W1 cx nt g quiet ops o T2 H2 K2 KP2 := by
  obtain ⟨dst, op, ty, pos, af, guard⟩ := o
  simp only at hc
  have some_ : ∀ {d : Nat} {K' KP' : AV → HH → Prop}, dst = some d → opK cx quiet (g, d, 0) op T H K' KP' →
      ∃ (v : AV) (u : Option Row), (u ≠ none → H (g, d, 0) = none) ∧ (clsOf cx quiet op ≠ 2 → u = none) ∧ K' v (putO H (g, d, 0) u) ∧
      ∀ (T2 : TT) (H2 : HH) (K2 KP2 : AV → HH → Prop), (∀ t, t ∈ namesOf ops ⟨dst, op, ty, pos, af, guard⟩ → T2 t = T t) →
        (clsOf cx quiet op = 0 ∨ ∀ t, t ∈ namesOf ops ⟨dst, op, ty, pos, af, guard⟩ → ∀ av r row, T t = some av → headId av = some r → H r = some row → H2 r = some row) →
        (u ≠ none → H2 (g, d, 0) = none) → K2 v (putO H2 (g, d, 0) u) → opK cx quiet (g, d, 0) op T2 H2 K2 KP2 := by
    intro d K' KP' hd h
    obtain ⟨v, u, h1, h2, h3, h4⟩ := opK_loc hc h
    refine ⟨v, u, h1, h2, h3, fun T2 H2 K2 KP2 ht hh hn hk => ?_⟩
    exact h4 ⟨T2, H2, ev_names (ops := ops) (o := ⟨dst, op, ty, pos, af, guard⟩) ht, hh.imp id fun h => head_names (ops := ops) (o := ⟨dst, op, ty, pos, af, guard⟩) h⟩ K2 KP2 hn hk
  have none_ : ∀ {K' KP' : AV → HH → Prop}, opK cx quiet (g, 1000000, 0) op T H K' KP' →
      ∃ (v : AV) (u : Option Row), (u ≠ none → H (g, 1000000, 0) = none) ∧ (clsOf cx quiet op ≠ 2 → u = none) ∧ K' v (putO H (g, 1000000, 0) u) ∧
      ∀ (T2 : TT) (H2 : HH) (K2 KP2 : AV → HH → Prop), (∀ t, t ∈ namesOf ops ⟨dst, op, ty, pos, af, guard⟩ → T2 t = T t) →
        (clsOf cx quiet op = 0 ∨ ∀ t, t ∈ namesOf ops ⟨dst, op, ty, pos, af, guard⟩ → ∀ av r row, T t = some av → headId av = some r → H r = some row → H2 r = some row) →
        (u ≠ none → H2 (g, 1000000, 0) = none) → K2 v (putO H2 (g, 1000000, 0) u) → opK cx quiet (g, 1000000, 0) op T2 H2 K2 KP2 := by
    intro K' KP' h
    obtain ⟨v, u, h1, h2, h3, h4⟩ := opK_loc hc h
    refine ⟨v, u, h1, h2, h3, fun T2 H2 K2 KP2 ht hh hn hk => ?_⟩
    exact h4 ⟨T2, H2, ev_names (ops := ops) (o := ⟨dst, op, ty, pos, af, guard⟩) ht, hh.imp id fun h => head_names (ops := ops) (o := ⟨dst, op, ty, pos, af, guard⟩) h⟩ K2 KP2 hn hk
  unfold W1 at h
  simp only at h
  split at h
  · split at h
    · split at h
      · rename_i d hb
        obtain ⟨v, u, h1, h2, h3, h4⟩ := some_ rfl h
        refine ⟨some v, u, h1, h2, h3, fun T2 H2 K2 KP2 ht hh hn hk => ?_⟩
        unfold W1; simp only [hb]
        exact h4 _ _ _ _ ht hh hn hk
      · exact h.elim
    · obtain ⟨v, u, h1, h2, h3, h4⟩ := none_ h
      refine ⟨some v, u, h1, h2, h3, fun T2 H2 K2 KP2 ht hh hn hk => ?_⟩
      exact h4 _ _ _ _ ht hh hn hk
  · rename_i j want
    split at h
    rotate_left
    · exact h.elim
    rename_i e _ _ _ _ _ hj
    split at h
    rotate_left
    · exact h.elim
    rename_i b hb
    have hin : e ∈ namesOf ops ⟨dst, op, ty, pos, af, some (j, want)⟩ := by
      unfold namesOf
      refine List.mem_append_right _ ?_
      simp [hj]
    split at h
    · split at h
      rotate_left
      · exact h.elim
      rename_i d hd
      rw [BrW_eq] at h; unfold Br at h
      split at h
      · rename_i hbw
        obtain ⟨v, u, h1, h2, h3, h4⟩ := some_ rfl h
        refine ⟨some v, u, h1, h2, h3, fun T2 H2 K2 KP2 ht hh hn hk => ?_⟩
        unfold W1; simp only [hj, ht e hin, hb, hd, BrW_eq, Br, hbw]
        exact h4 _ _ _ _ ht hh hn hk
      · rename_i hbw
        refine ⟨none, none, fun h => absurd rfl h, fun _ => rfl, h, fun T2 H2 K2 KP2 ht hh hn hk => ?_⟩
        unfold W1; simp only [hj, ht e hin, hb, hd, BrW_eq, Br, hbw]
        exact hk
    · rw [BrW_eq] at h; unfold Br at h
      split at h
      · rename_i hbw
        obtain ⟨v, u, h1, h2, h3, h4⟩ := none_ h
        refine ⟨some v, u, h1, h2, h3, fun T2 H2 K2 KP2 ht hh hn hk => ?_⟩
        unfold W1; simp only [hj, ht e hin, hb, BrW_eq, Br, hbw]
        exact h4 _ _ _ _ ht hh hn hk
      · rename_i hbw
        refine ⟨none, none, fun h => absurd rfl h, fun _ => rfl, h, fun T2 H2 K2 KP2 ht hh hn hk => ?_⟩
        unfold W1; simp only [hj, ht e hin, hb, BrW_eq, Br, hbw]
        exact hk
/-- An operation in a state that shows it the same operands and has the same rows. -/
theorem W1_congr {quiet : Bool} {o : Oper} {T T2 : TT} {H : HH} {K : TT → HH → Prop} {KP : AV → HH → Prop} (ht : ∀ t, t ∈ namesOf ops o → T2 t = T t) (h : W1 cx nt g quiet ops o T H K (fun v _ H' => KP v H')) :
    W1 cx nt g quiet ops o T2 H (fun T' H' => ∃ v, T' = updT o.dst v T2 ∧ K (updT o.dst v T) H') (fun v _ H' => KP v H') := by
  obtain ⟨dst, op, ty, pos, af, guard⟩ := o
  have he := ev_names (cx := cx) ht
  unfold W1 at h ⊢
  simp only at h he ⊢
  have fin : ∀ {id : Id} {f : AV → TT}, (∀ v, f v = updT dst (some v) T) → opK cx quiet id op T H (fun v H' => K (f v) H') (fun v H' => KP v H') → ∀ {f2 : AV → TT}, (∀ v, f2 v = updT dst (some v) T2) →
      opK cx quiet id op T2 H (fun v H' => ∃ u, f2 v = updT dst u T2 ∧ K (updT dst u T) H') (fun v H' => KP v H') := by
    intro id f hf h f2 hf2
    rw [opK_congr he]
    exact opK_mono (fun v H' hk => ⟨some v, hf2 v, by rw [← hf]; exact hk⟩) (fun _ _ h => h) h
  cases guard with
  | none =>
    cases dst with
    | none => exact fin (fun v => rfl) h (fun v => rfl)
    | some d =>
      simp only at h ⊢
      split at h
      · rename_i hd
        try simp only [hd]
        exact fin (fun v => rfl) h (fun v => rfl)
      · exact h.elim
  | some gw =>
    obtain ⟨j, want⟩ := gw
    simp only at h ⊢
    split at h
    rotate_left
    · exact h.elim
    rename_i e _ _ _ _ _ hj
    split at h
    rotate_left
    · exact h.elim
    rename_i b hb
    have hin : e ∈ namesOf ops ⟨dst, op, ty, pos, af, some (j, want)⟩ := by
      unfold namesOf
      refine List.mem_append_right _ ?_
      simp [hj]
    simp only [ht e hin, hb]
    cases dst with
    | none =>
      simp only at h ⊢
      rw [BrW_eq] at h ⊢; unfold Br at h ⊢
      split at h
      · rename_i hbw
        try simp only [hbw]
        exact fin (fun v => rfl) h (fun v => rfl)
      · rename_i hbw
        try simp only [hbw]
        exact ⟨none, rfl, h⟩
    | some d =>
      simp only at h ⊢
      split at h
      rotate_left
      · exact h.elim
      rename_i hd
      try simp only [hd]
      rw [BrW_eq] at h ⊢; unfold Br at h ⊢
      split at h
      · rename_i hbw
        try simp only [hbw]
        exact fin (fun v => rfl) h (fun v => rfl)
      · rename_i hbw
        try simp only [hbw]
        exact ⟨none, rfl, h⟩
end
end Go.Eng

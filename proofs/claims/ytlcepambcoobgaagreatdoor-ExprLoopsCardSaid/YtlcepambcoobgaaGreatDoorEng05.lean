/- Eng05: an engine for the program's code, and walks of its functions (O P PB Q). -/
import Derived.Test.YtlcepambcoobgaaGreatDoorEng04
/- Soundness, eleventh part: an operation; a call. -/
namespace Go.Eng
section
variable {cx : Cx} {w : World} {μ : Id → Option Loc} {F : Nat → Prop} {H : HH}
/-- A call of a function that only computes, from a caller that has rows of its own. -/
theorem PCall.spec {f : FuncId} {args : List AV} {v : AV} (h : PCall cx f args H (.ret v)) : HSpec cx f args H fun o H' => o = .ret v ∧ H' = H := by
  intro w μ F vs hH hG ha
  obtain ⟨args0, hp, hc⟩ := h
  -- the blocks that the callee may lean on
  have key : ∃ F0 : Nat → Prop, (∀ b, F0 b → b < w.heap.size) ∧ (∀ b, F b → F0 b) ∧ All2 (RepF w F0) args0 vs ∧ ((∀ b, F0 b → F b) ∨ noMem v = true) := by
    rcases hc with he | ⟨he, hn⟩
    · refine ⟨F, hH.lt, fun _ h => h, ?_, .inl fun _ h => h⟩
      clear hp
      induction ha generalizing args0 with
      | nil => cases args0 with | nil => exact .nil | cons => exact he.elim
      | cons hq _ ih =>
        cases args0 with
        | nil => exact he.elim
        | cons a l => exact .cons (he.1 _ _ _ _ hq) (ih l he.2)
    · refine ⟨fun b => F b ∨ Lv μ H b, fun b hb => hb.elim (hH.lt b) hH.row_lt, fun _ h => .inl h, ?_, .inr hn⟩
      clear hp
      induction ha generalizing args0 with
      | nil => cases args0 with | nil => exact .nil | cons => exact he.elim
      | cons hq _ ih =>
        cases args0 with
        | nil => exact he.elim
        | cons a l => exact .cons (he.1 _ _ _ _ hH hq) (ih l he.2)
  obtain ⟨F0, k1, k2, k3, k4⟩ := key
  have hc := hp w F0 vs k1 (hG.mono (fun _ _ => rfl) k2) k3
  have fin : ∀ e w', (∃ F', EndF w' F' (.ret v) e ∧ FrF w F0 w' F') → ∃ o H' μ' F', (o = Out.ret v ∧ H' = H) ∧ EndR w' μ' F' o e ∧ HRep w' μ' F' H' ∧ GOK cx w' F' ∧ Fr w μ F H w' μ' F' H' := by
    rintro e w' ⟨F', he, hf⟩
    have hkF : ∀ b, F b → w'.heap[b]? = w.heap[b]? := fun b hb => hf.keep b (hH.lt b hb)
    have hbase := hH.same hf.size hf.keep
    let F1 : Nat → Prop := fun b => F b ∨ (w.heap.size ≤ b ∧ F' b)
    have hH1 : HRep w' μ F1 H := by
      refine ⟨fun r row hr => ?_, hbase.dom, hbase.inj, fun r row l b h1 h2 h3 h4 hb => ?_, fun b hb => ?_⟩
      · obtain ⟨l, hl, hrow⟩ := hbase.rows r row hr
        exact ⟨l, hl, hrow.mono (fun _ _ _ => rfl) (fun _ _ => rfl) (fun _ h => .inl h) (fun _ _ h => h)⟩
      · rcases hb with hb | ⟨hb, _⟩
        · exact hH.disj r row l b h1 h2 h3 h4 hb
        · have := hH.row_lt ⟨r, row, l, h1, h2, h3, h4⟩; omega
      · rcases hb with hb | ⟨_, hb⟩
        · exact Nat.lt_of_lt_of_le (hH.lt b hb) hf.size
        · exact hf.lt b hb
    cases he with
    | ret hv =>
      rename_i x
      refine ⟨.ret v, H, μ, F1, ⟨rfl, rfl⟩, .ret (.frz ?_), hH1, hG.mono hkF (fun _ h => .inl h), ⟨hf.os, hf.tape, hf.output, hf.size, fun b hb _ => hf.keep b hb, fun _ _ h => h, fun _ h => .inl h, fun b hb => ?_, fun _ h => .inr h⟩⟩
      · rcases k4 with hs | hn
        · exact hv.mono (fun _ _ => rfl) fun b hb => (hf.fr' b hb).elim (fun h => .inl (hs b h)) fun h => .inr ⟨h, hb⟩
        · have nm : ∀ {av : AV} {x : Value}, RepF w' F' av x → noMem av = true → RepF w' F1 av x := by
            intro av x h
            have nmL : ∀ {l : List AV}, noMem.noMemL l = true → ∀ i (hi : i < l.length), noMem l[i] = true := by
              intro l
              induction l with
              | nil => intro _ i hi; simp at hi
              | cons a l ih =>
                intro h i hi
                simp only [noMem.noMemL, Bool.and_eq_true] at h
                cases i with
                | zero => exact h.1
                | succ i => exact ih h.2 i (by simpa using hi)
            induction h with
            | lit h => intro _; exact .lit h
            | top h => intro _; exact .top h
            | fsE _ => intro h; simp [noMem] at h
            | fs => intro h; simp [noMem] at h
            | fp => intro h; simp [noMem] at h
            | clo => intro h; simp [noMem] at h
            | ifc _ ih => intro h; exact .ifc (ih (by simpa [noMem] using h))
            | agg h1 _ ih => intro h; exact .agg h1 fun i hi hi' => ih i hi hi' (nmL (by simpa [noMem] using h) i hi)
            | tup h1 _ ih => intro h; exact .tup h1 fun i hi hi' => ih i hi hi' (nmL (by simpa [noMem] using h) i hi)
            | lz => intro h; simp [noMem] at h
          exact nm hv hn
      · rcases hb with hb | ⟨hb, _⟩
        · exact .inl hb
        · exact .inr (.inl hb)
  unfold CallsX at hc ⊢
  split at hc
  · exact hc.mono fun e w' h => fin e w' h
  · exact fin _ _ hc
  · exact hc.mono fun v w' h => fin _ _ h
  · exact fin _ _ hc
  · exact hc.elim
theorem CallW.spec {quiet : Bool} {f : FuncId} {args : List AV} {K KP : AV → HH → Prop} (h : CallW cx quiet f args H K KP) :
    ∃ Post, HSpec cx f args H Post ∧ ∀ o H', Post o H' → match o with | .ret v => K v H' | .pan v => KP v H' := by
  replace h := h.h
  split at h
  · obtain ⟨args0, v, h1, h1', h2⟩ := h
    exact ⟨_, PCall.spec ⟨args0, h1, .inl h1'⟩, fun o H' ⟨ho, hH⟩ => by subst ho; subst hH; exact h2⟩
  · exact h
theorem constA1_rep {w : World} {F : Nat → Prop} {c : Value} {v : AV} (h : constA1 c = some v) : RepF w F v c := by
  unfold constA1 at h
  split at h
  · cases h; exact .lit (show Plain (.bool _) from trivial)
  · cases h; exact .lit (show Plain (.int _ _) from trivial)
  · rename_i s
    split at h
    · rename_i hb
      cases h
      exact .lit (by show s.size ≤ R; have := Nat.le_of_ble_eq_true hb; simp only [R]; omega)
    · cases h
  · cases h; exact .lit (show Plain (.pointer none) from trivial)
  · cases h; exact .fsE (by simp)
  · cases h; exact .lit (show Plain (.map none) from trivial)
  · cases h; exact .lit (show Plain .nilFunc from trivial)
  · cases h; exact .lit (show Plain .nilIface from trivial)
  · cases h
theorem constL_rep {w : World} {F : Nat → Prop} : ∀ {l : List Value} {r : List AV}, constL l = some r → r.length = l.length ∧ ∀ i (h : i < r.length) (h' : i < l.length), RepF w F r[i] l[i]
  | [], r, h => by cases h; exact ⟨rfl, fun i h => absurd h (Nat.not_lt_zero _)⟩
  | v :: l, r, h => by
    unfold constL at h
    split at h
    · rename_i a r' ha hr
      cases h
      obtain ⟨h1, h2⟩ := constL_rep (w := w) (F := F) hr
      refine ⟨by simp [h1], fun i hi hi' => ?_⟩
      cases i with
      | zero => exact constA1_rep ha
      | succ i => exact h2 i (by simpa using hi) (by simpa using hi')
    · cases h
theorem constAV_rep {w : World} {F : Nat → Prop} {c : Value} {v : AV} (h : constAV c = some v) : RepF w F v c := by
  unfold constAV at h
  split at h
  · split at h
    · rename_i l r hr
      cases h
      obtain ⟨h1, h2⟩ := constL_rep (w := w) (F := F) hr
      exact .agg h1 h2
    · cases h
  · exact constA1_rep h
variable {T : TT} {a : Act}
theorem ev_sound (hg : GOK cx w F) (hT : ∀ t av, T t = some av → Rep w μ F av (a.tmps.getD t undef)) {x : Operand} {v : AV} (h : ev cx T x = some v) : Rep w μ F v (a.eval x) := by
  cases x with
  | tmp t => exact hT t v h
  | const c =>
    simp only [ev] at h
    show Rep w μ F v c
    exact .frz (constAV_rep h)
  | func f =>
    simp only [ev] at h
    cases h
    exact .frz (.clo (fs := []) (cs := []) rfl rfl (by simp) (by simp))
  | global g =>
    simp only [ev] at h
    split at h
    · rename_i cs hc
      cases h
      exact .frz (hg.t g cs hc)
    · cases h
theorem withE_iff {x : Operand} {k : AV → Prop} (h : withE cx T x k) : ∃ v, ev cx T x = some v ∧ k v := by
  unfold withE at h
  split at h
  · exact ⟨_, ‹_›, h⟩
  · exact h.elim
end
end Go.Eng
/- Soundness, twelfth part: every operation. -/
namespace Go.Eng
section
variable {cx : Cx} {w : World} {μ : Id → Option Loc} {F : Nat → Prop} {H : HH}
theorem zeros_rep {z : List AV} {zz : Array Value} {sz : Nat} (hz : All2 (RepF w F) z zz.toList) (h1 : ∀ v ∈ zz.toList, v.oneCell' = true) (hl : z.length = sz) (n : Nat) :
    All2 (Rep w μ F) (List.replicate n z).flatten (Builtin.zeroCells zz n).toList ∧ ∀ u ∈ (Builtin.zeroCells zz n).toList, u.oneCell' = true := by
  have hzl : zz.size = sz := by have := hz.length; simp at this; omega
  have hel : ∀ x ∈ List.replicate n z, x.length = sz := fun x hx => by rw [(List.mem_replicate.1 hx).2]; exact hl
  have hfl := flatten_length hel
  simp only [List.length_replicate] at hfl
  have hdm : ∀ q, q < n * sz → q / sz < n ∧ q % sz < sz ∧ q / sz * sz + q % sz = q := by
    intro q hq
    by_cases hz : sz = 0
    · subst hz; simp at hq
    exact ⟨by rw [Nat.div_lt_iff_lt_mul (by omega)]; exact hq, Nat.mod_lt _ (by omega), by rw [Nat.mul_comm]; exact Nat.div_add_mod q sz⟩
  have hget : ∀ q (hq : q < n * sz) (h2 : q < (Builtin.zeroCells zz n).toList.length), (Builtin.zeroCells zz n).toList[q] = zz.toList[q % sz]'(by have := (hdm q hq).2.1; simp; omega) := by
    intro q hq h2
    have h3 := (hdm q hq).2.1
    simp only [Builtin.zeroCells, Array.toList_map, List.getElem_map, Array.getElem_toList, Array.getElem_range, hzl]
    rw [getElem!_pos zz (q % sz) (by omega)]
  have hsz : (Builtin.zeroCells zz n).toList.length = n * sz := by simp [size_zeroCells', hzl]
  constructor
  · refine .of_get (by rw [hfl, hsz]) fun q hq hq' => ?_
    rw [hfl] at hq
    obtain ⟨d1, d2, d3⟩ := hdm q hq
    have e1 := flatten_get hel (q / sz) (q % sz) (by simpa using d1) d2
    rw [d3, List.getElem?_eq_getElem (by rw [hfl]; exact hq)] at e1
    simp only [List.getElem_replicate] at e1
    rw [List.getElem?_eq_getElem (by omega)] at e1
    rw [Option.some.inj e1, hget q hq hq']
    exact .frz (hz.get _ (by omega) (by simp; omega))
  · intro u hu
    obtain ⟨q, hq, rfl⟩ := List.getElem_of_mem hu
    have hq2 : q < n * sz := by rw [← hsz]; exact hq
    rw [hget q hq2 hq]
    exact h1 _ (List.getElem_mem _)
theorem clearK_sound (ok : CxOK cx) (h : HRep w μ F H) (hg : GOK cx w F) {t : TypeId} {rest : List TypeId} {ty : TypeId} {x : AV} {K : AV → HH → Prop} (hk : clearK cx t H K x) {v : Value} (hv : Rep w μ F x v) :
    Yields cx w μ F H (Builtin.clear_ ⟨t :: rest⟩ ty #[v]) K := by
  unfold clearK at hk
  split at hk
  rotate_left
  · exact hk.elim
  rename_i r o n c
  split at hk
  rotate_left
  · exact hk.elim
  rename_i e n0 b0 z0 ht
  split at hk
  rotate_left
  · exact hk.elim
  rename_i dd sz bs0 z he
  split at hk
  rotate_left
  · exact hk.elim
  rename_i sz' bs es hr
  split at hk
  rotate_left
  · exact hk.elim
  rename_i hb
  obtain rfl := Nat.eq_of_beq_eq_true hb
  obtain ⟨hle, hk⟩ := hk
  obtain ⟨a, k, rfl⟩ := Rep_row_slice hv
  obtain ⟨i2, d2, z2, t1, t2, t3, t4, t5, t6, t7, t8, t9, t10, t11⟩ := (ok.ty e _ he).ok
  simp only at t8 t9
  obtain ⟨z1, z1'⟩ := zeros_rep (μ := μ) (t9 w F) t10 t8 n
  obtain ⟨w', k1, k2, k3, k4⟩ := h.over hg hr hv hle (xs := List.replicate n z) (by simp) (fun e he => by rw [(List.mem_replicate.1 he).2]; exact t8) z1 z1'
  have k1' := k1 cx.P
  have hu := slice_ok ok ht
  refine ⟨.tuple #[], w', _, _, μ, F, ?_, hk, .frz (.lit (show Plain (.tuple #[]) from rfl)), k2, k3, k4⟩
  cases a with
  | none =>
    simp only [Sem.run_pure] at k1'
    simp [Builtin.clear_, run_underlying hu]
    simpa using k1'
  | some a =>
    simp only at k1'
    cases n with
    | zero =>
      have : (Builtin.zeroCells z2.cells 0).toList = [] := by apply List.eq_nil_of_length_eq_zero; simp [size_zeroCells']
      rw [this] at k1'
      simp only [storeCells, Sem.run_pure] at k1'
      simp [Builtin.clear_, run_underlying hu]
      simpa using k1'
    | succ n => simp [Builtin.clear_, run_underlying hu, zeroValue, typeInfo, t1, t6, k1']
variable {T : TT} {a : Act}
theorem parts_sound (hg : GOK cx w F) (hT : TOKs w μ F T a) {ps : List (Nat × Operand)} {l : List (Nat × AV)} (h : All2 (fun (p : Nat × Operand) (q : Nat × AV) => p.1 = q.1 ∧ ev cx T p.2 = some q.2) ps l) :
    All2 (fun (p : Nat × AV) (q : Nat × Value) => p.1 = q.1 ∧ Rep w μ F p.2 q.2) l (ps.map fun p => (p.1, a.eval p.2)) := by
  induction h with
  | nil => exact .nil
  | cons hq _ ih => exact .cons ⟨hq.1.symm, ev_sound hg hT hq.2⟩ ih
theorem evs_sound (hg : GOK cx w F) (hT : TOKs w μ F T a) {ps : List Operand} {l : List AV} (h : All2 (fun p q => ev cx T p = some q) ps l) : All2 (Rep w μ F) l (ps.map a.eval) := by
  induction h with
  | nil => exact .nil
  | cons hq _ ih => exact .cons (ev_sound hg hT hq) ih
/-- What an operation leads to. -/
structure Goes (cx : Cx) (o : Oper) (a : Act) (w : World) (μ : Id → Option Loc) (F : Nat → Prop) (H : HH) (K KP : AV → HH → Prop) : Prop where
  h : ∀ (next : Act → World → Prop) (Q : Exit → Act → World → Prop),
    (∀ v w' av H' μ' F', K av H' → Rep w' μ' F' av v → HRep w' μ' F' H' → GOK cx w' F' → Fr w μ F H w' μ' F' H' → next (a.put o.dst v) w') →
    (∀ v w' av H' μ' F', KP av H' → Rep w' μ' F' av v → HRep w' μ' F' H' → GOK cx w' F' → Fr w μ F H w' μ' F' H' → Q (.panic [{ v, recovered := false }]) a w') → o.wp cx.P a w next Q
theorem Goes.value {o : Oper} {K KP : AV → HH → Prop} {s : Sem Value} (hy : Yields cx w μ F H s K) (he : ∀ v w', s.run cx.P w = .ok v w' → (execOp a.eval o).run cx.P w = .ok (.value v) w') : Goes cx o a w μ F H K KP := by
  refine ⟨fun next Q hn _ => ?_⟩
  obtain ⟨v, w', av, H', μ', F', h1, h2, h3, h4, h5, h6⟩ := hy
  unfold Oper.wp
  rw [he v w' h1]
  exact hn v w' av H' μ' F' h2 h3 h4 h5 h6
theorem Goes.call {o : Oper} {K KP : AV → HH → Prop} {f : FuncId} {args : List AV} {vs : List Value} {quiet : Bool} (h : HRep w μ F H) (hg : GOK cx w F) (hk : CallW cx quiet f args H K KP) (ha : All2 (Rep w μ F) args vs)
    (he : (execOp a.eval o).run cx.P w = (callFunc f ⟨vs⟩).run cx.P w) : Goes cx o a w μ F H K KP := by
  refine ⟨fun next Q hn hp => ?_⟩
  obtain ⟨Post, hs, hpost⟩ := hk.spec
  have hc := hs w μ F vs h hg ha
  have fin : ∀ e w', (∃ o H' μ' F', Post o H' ∧ EndR w' μ' F' o e ∧ HRep w' μ' F' H' ∧ GOK cx w' F' ∧ Fr w μ F H w' μ' F' H') →
      match e with
      | .returned v => next (a.put o.dst v) w'
      | .panicked chain => Q (.panic chain) a w'
      | .outgrown => LetsOut Q := by
    rintro e w' ⟨o', H', μ', F', h1, h2, h3, h4, h5⟩
    have := hpost o' H' h1
    cases h2 with
    | ret hr => exact hn _ _ _ _ _ _ this hr h3 h4 h5
    | pan hr => exact hp _ _ _ _ _ _ this hr h3 h4 h5
  unfold Oper.wp
  rw [he]
  unfold CallsX at hc
  unfold Oper.upon
  split at hc
  · rename_i g b w' hr
    rw [hr]
    refine hc.mono fun e w'' h => ?_
    have := fin e w'' h
    cases e <;> exact this
  · rename_i v w' hr
    rw [hr]
    exact fin _ _ hc
  · rename_i row b w' hr
    rw [hr]
    exact hc.mono fun v w'' h => fin _ _ h
  · rename_i v w' hr
    rw [hr]
    exact fin _ _ hc
  · exact hc.elim
theorem optE_sound (hg : GOK cx w F) (hT : TOKs w μ F T a) {x : Option Operand} {k : Option AV → Prop} (h : optE cx T x k) : ∃ v, k v ∧ OptR w μ F v (x.map a.eval) := by
  unfold optE at h
  split at h
  · obtain ⟨v, h1, h2⟩ := withE_iff h
    exact ⟨_, h2, ev_sound hg hT h1⟩
  · exact ⟨_, h, trivial⟩
end
end Go.Eng
/- Soundness: maps of texts, ranges over texts. -/
namespace Go.Eng
section
variable {cx : Cx} {w : World} {μ : Id → Option Loc} {F : Nat → Prop} {H : HH}
theorem run_getObj_map' {P : Program} {w : World} {r : Nat} {es : Array MapEntry} {ck : Nat} (h : w.heap[r]? = some (.map es ck)) : (getObj r).run P w = .ok (.map es ck) w := by simp [getObj, Sem.run, h]
theorem run_getObj_iter {P : Program} {w : World} {r : Nat} {s : ByteArray} {p : Nat} (h : w.heap[r]? = some (.stringIter s p)) : (getObj r).run P w = .ok (.stringIter s p) w := by simp [getObj, Sem.run, h]
theorem run_setObj_map' {P : Program} {w : World} {r : Nat} {es : Array MapEntry} {ck : Nat} (h : w.heap[r]? = some (.map es ck)) (o : Obj) : (setObj r o).run P w = .ok () { w with heap := w.heap.setIfInBounds r o } := by simp [setObj, Sem.run, h]
theorem run_setObj_iter {P : Program} {w : World} {r : Nat} {s : ByteArray} {p : Nat} (h : w.heap[r]? = some (.stringIter s p)) (o : Obj) : (setObj r o).run P w = .ok () { w with heap := w.heap.setIfInBounds r o } := by simp [setObj, Sem.run, h]
theorem run_newObj {P : Program} {w : World} (o : Obj) : (newObj o).run P w = .ok w.heap.size { w with heap := w.heap.push o } := by simp [newObj, Sem.run]
theorem makeMapK_sound (h : HRep w μ F H) (hg : GOK cx w F) {id : Id} {t : TypeId} {K : AV → HH → Prop} (hk : makeMapK id H K) : Yields cx w μ F H (Instr.makeMap t none) K := by
  obtain ⟨hid, hk⟩ := fresh_iff hk
  refine ⟨.map (some w.heap.size), { w with heap := w.heap.push (.map #[] 0) }, .mref id, _, mput μ id ⟨some w.heap.size, 0, 0, 0, 0⟩, F, ?_, hk, .mref (mput_same ..) rfl,
    h.lay hid (by simp) (fun b hb => heap_push_old w _ hb) rfl ⟨w.heap.size, #[], 0, rfl, heap_push_new .., rfl, fun i hi => by simp at hi, fun i j hi => by simp at hi⟩,
    hg.mono (fun b hF => heap_push_old w _ (h.lt b hF)) (fun _ h => h), Fr.lay h hid rfl rfl rfl (by simp) (fun b hb => heap_push_old w _ hb) rfl⟩
  simp [Instr.makeMap, run_newObj, Result.andThen]
theorem sameNow_str (s t : ByteArray) : Instr.sameNow .string (.string s) (.string t) = some (decide (s = t)) := by
  simp only [Instr.sameNow]
  congr 1
  obtain ⟨a⟩ := s
  obtain ⟨b⟩ := t
  show (a == b) = _
  by_cases h : a = b
  · subst h; simp
  · simp [h]
theorem findS_ok {s : ByteArray} : ∀ {kv : List (AV × AV)} {es : List MapEntry} (i : Nat) {o : Option AV}, kv.length = es.length →
    (∀ j (h : j < kv.length) (h' : j < es.length), Rep w μ F kv[j].1 es[j].key ∧ Rep w μ F kv[j].2 es[j].val) → findS s kv = some o →
    match o with
    | none => Instr.findNow .string (.string s) es i = some none
    | some v => ∃ j u, Instr.findNow .string (.string s) es i = some (some (i + j, u)) ∧ Rep w μ F v u
  | [], [], i, o, _, _, hf => by
    cases hf
    rfl
  | [], _ :: _, i, o, hl, _, hf => by simp at hl
  | _ :: _, [], i, o, hl, _, hf => by simp at hl
  | (k, v) :: kv, e :: es, i, o, hl, hr, hf => by
    unfold findS at hf
    split at hf
    rotate_left
    · cases hf
    rename_i t
    obtain ⟨h1, h2⟩ := hr 0 (by simp) (by simp)
    simp only [List.getElem_cons_zero] at h1 h2
    obtain ⟨hk, _⟩ := Rep_lit h1
    split at hf
    · rename_i hd
      cases hf
      refine ⟨0, e.val, ?_, h2⟩
      simp only [Instr.findNow, hk, sameNow_str, hd, Nat.add_zero]
    · rename_i hd
      have ih := findS_ok (s := s) (kv := kv) (es := es) (i + 1) (by simpa using hl) (fun j a b => hr (j + 1) (by simpa using a) (by simpa using b)) hf
      have e1 : Instr.findNow .string (.string s) (e :: es) i = Instr.findNow .string (.string s) es (i + 1) := by
        simp only [Instr.findNow, hk, sameNow_str, hd]
      cases o with
      | none => exact e1.trans ih
      | some v =>
        obtain ⟨j, u, a1, a2⟩ := ih
        exact ⟨j + 1, u, by rw [e1, a1]; congr 3; omega, a2⟩
theorem setS_ok {s : ByteArray} {v : AV} : ∀ {kv kv' : List (AV × AV)} {es : List MapEntry} (i : Nat), kv.length = es.length →
    (∀ j (h : j < kv.length) (h' : j < es.length), Rep w μ F kv[j].1 es[j].key ∧ Rep w μ F kv[j].2 es[j].val) → setS s v kv = some kv' →
    (Instr.findNow .string (.string s) es i = some none ∧ kv' = kv ++ [(.lit (.string s), v)]) ∨
    (∃ j u, Instr.findNow .string (.string s) es i = some (some (i + j, u)) ∧ ∃ (hj : j < es.length), es[j].key = .string s ∧ kv' = kv.set j (.lit (.string s), v))
  | [], kv', [], i, _, _, hf => by
    cases hf
    exact .inl ⟨rfl, rfl⟩
  | [], _, _ :: _, i, hl, _, hf => by simp at hl
  | _ :: _, _, [], i, hl, _, hf => by simp at hl
  | (k, u0) :: kv, kv', e :: es, i, hl, hr, hf => by
    unfold setS at hf
    split at hf
    rotate_left
    · cases hf
    rename_i t
    obtain ⟨h1, h2⟩ := hr 0 (by simp) (by simp)
    simp only [List.getElem_cons_zero] at h1 h2
    obtain ⟨hk, _⟩ := Rep_lit h1
    split at hf
    · rename_i hd
      cases hf
      have hst : s = t := of_decide_eq_true hd
      refine .inr ⟨0, e.val, ?_, by simp, ?_, by simp⟩
      · simp only [Instr.findNow, hk, sameNow_str, hd, Nat.add_zero]
      · simp [hk, hst]
    · rename_i hd
      split at hf
      rotate_left
      · cases hf
      rename_i r hr2
      cases hf
      have ih := setS_ok (s := s) (kv := kv) (es := es) (i + 1) (by simpa using hl) (fun j a b => hr (j + 1) (by simpa using a) (by simpa using b)) hr2
      have e1 : Instr.findNow .string (.string s) (e :: es) i = Instr.findNow .string (.string s) es (i + 1) := by
        simp only [Instr.findNow, hk, sameNow_str, hd]
      rcases ih with ⟨a1, a2⟩ | ⟨j, u, a1, a2, a3, a4⟩
      · exact .inl ⟨e1.trans a1, by rw [a2]; rfl⟩
      · exact .inr ⟨j + 1, u, by rw [e1, a1]; congr 3; omega, by simpa using a2, by simpa using a3, by rw [a4]; rfl⟩
theorem run_checkKey_str {P : Program} {w : World} {b : Bool} {k : TypeId} {v : Value} (hu : P.underlying k = some .string) : (Instr.checkKey b 10000 k v).run P w = .ok () w := by
  have key : ∀ n, (Instr.checkKey b (n + 1) k v).run P w = .ok () w := fun n => by
    simp only [Instr.checkKey, Sem.run_bind, run_underlying hu, Result.andThen_ok]
    rfl
  exact key 9999
theorem isStrT_ok (ok : CxOK cx) {k : TypeId} (h : isStrT (cx.ty k) = true) : cx.P.underlying k = some .string := by
  unfold isStrT at h
  split at h
  · rename_i ht
    obtain ⟨i, dd, zz, t1, t2, t3, t4, t5, _⟩ := (ok.ty _ _ ht).ok
    obtain rfl : dd = .string := t5
    exact t2
  · cases h
theorem lookRes_some (h : HRep w μ F H) (hg : GOK cx w F) {e : TypeId} {c : Bool} {K : AV → HH → Prop} {v : AV} {u : Value} (hk : lookRes cx e c (fun r => K r H) (some v)) (hu : Rep w μ F v u) {s : Sem Value}
    (hs : s.run cx.P w = .ok (if c = true then .tuple #[u, .bool true] else u) w) : Yields cx w μ F H s K := by
  have two : ∀ {a : AV} {y : Value} {bb : Bool}, Rep w μ F a y → Rep w μ F (.tup [a, .lit (.bool bb)]) (.tuple #[y, .bool bb]) := fun hy => (All2.cons hy (.cons (rBool _) .nil)).tup
  simp only [lookRes] at hk
  cases c with
  | true => exact .same h hg hs hk (two hu)
  | false => exact .same h hg hs hk hu
theorem lookRes_none (ok : CxOK cx) (h : HRep w μ F H) (hg : GOK cx w F) {e : TypeId} {c : Bool} {K : AV → HH → Prop} (hk : lookRes cx e c (fun r => K r H) none) {s : Sem Value}
    (hs : s.run cx.P w = ((zeroValue e).run cx.P w).andThen fun a w' => .ok (if c = true then .tuple #[a, .bool false] else a) w') : Yields cx w μ F H s K := by
  have two : ∀ {a : AV} {y : Value} {bb : Bool}, Rep w μ F a y → Rep w μ F (.tup [a, .lit (.bool bb)]) (.tuple #[y, .bool bb]) := fun hy => (All2.cons hy (.cons (rBool _) .nil)).tup
  simp only [lookRes] at hk
  split at hk
  rotate_left
  · exact hk.elim
  rename_i z hz
  obtain ⟨q, h1, h2⟩ := wholeV_sound (w := w) (μ := μ) (F := F) ok hz
  rw [h1] at hs
  cases c with
  | true => exact .same h hg hs hk (two h2)
  | false => exact .same h hg hs hk h2
theorem lookupK_sound (ok : CxOK cx) (h : HRep w μ F H) (hg : GOK cx w F) {t : TypeId} {c : Bool} {m x : AV} {K : AV → HH → Prop} (hk : lookupK cx t c H (fun r => K r H) m x) {u v : Value} (hu : Rep w μ F m u) (hv : Rep w μ F x v) :
    Yields cx w μ F H (Instr.lookup t u v c) K := by
  unfold lookupK at hk
  split at hk
  rotate_left
  · exact hk.elim
  rename_i k e n0 b0 z0 ht
  obtain ⟨i, dd, zz, t1, t2, t3, t4, t5, _⟩ := (ok.ty _ _ ht).ok
  obtain rfl : dd = .map k e := t5
  split at hk
  rotate_left
  · exact hk.elim
  rename_i hs
  have hks := isStrT_ok ok hs
  split at hk
  · rename_i r s
    obtain ⟨l, b, m1, m2, rfl⟩ := Rep_mref hu
    obtain ⟨rfl, _⟩ := Rep_lit hv
    split at hk
    rotate_left
    · exact hk.elim
    rename_i kv hr
    obtain ⟨o, hf, hk⟩ := hk
    obtain ⟨l', hl', b', es, ck, g1, g2, g3, g4, g5⟩ := h.rows r _ hr
    obtain rfl := Option.some.inj (hl'.symm.trans m1)
    obtain rfl := Option.some.inj (g1.symm.trans m2)
    have hfind := findS_ok (w := w) (μ := μ) (F := F) (es := es.toList) 0 (by simp [g3]) (fun j a b => by obtain ⟨x1, x2, _⟩ := g4 j a (by simpa using b); exact ⟨by simpa using x1, by simpa using x2⟩) hf
    cases o with
    | none =>
      simp only at hfind
      refine lookRes_none ok h hg hk ?_
      simp only [Instr.lookup, Sem.run_bind, Sem.run_pure, run_underlying t2, run_getObj_map' g2, run_checkKey_str hks, Instr.findKey, run_underlying hks, hfind, Result.andThen_ok]
    | some v =>
      obtain ⟨j, u, a1, a2⟩ := hfind
      refine lookRes_some h hg hk a2 ?_
      simp only [Instr.lookup, Sem.run_bind, Sem.run_pure, run_underlying t2, run_getObj_map' g2, run_checkKey_str hks, Instr.findKey, run_underlying hks, a1, Result.andThen_ok]
  · rename_i s
    obtain ⟨rfl, _⟩ := Rep_lit hu
    obtain ⟨rfl, _⟩ := Rep_lit hv
    refine lookRes_none ok h hg hk ?_
    simp only [Instr.lookup, Sem.run_bind, Sem.run_pure, run_underlying t2, run_checkKey_str hks, Instr.findKey, run_underlying hks, Instr.findNow, Result.andThen_ok]
  · exact hk.elim
theorem heap_set_ne (w : World) (o : Obj) {r b : Nat} (h : b ≠ r) : (w.heap.setIfInBounds r o)[b]? = w.heap[b]? := by
  rw [Array.getElem?_setIfInBounds_ne (Ne.symm h)]
theorem heap_set_eq (w : World) (o : Obj) {r : Nat} (h : r < w.heap.size) : (w.heap.setIfInBounds r o)[r]? = some o := by
  rw [Array.getElem?_setIfInBounds_self]; simp [h]
theorem writeObj (h : HRep w μ F H) (hg : GOK cx w F) {r : Id} {row old : Row} {l : Loc} {b : Nat} (hr : H r = some old) (hlv : old.live = true) (m1 : μ r = some l) (m2 : l.b = some b) (o : Obj) (hb : b < w.heap.size)
    (hrow : RowRep { w with heap := w.heap.setIfInBounds b o } μ F l row) (hl2 : row.live = true) :
    HRep { w with heap := w.heap.setIfInBounds b o } μ F (H.put r row) ∧ GOK cx { w with heap := w.heap.setIfInBounds b o } F ∧ Fr w μ F H { w with heap := w.heap.setIfInBounds b o } μ F (H.put r row) := by
  have hne : ∀ b', some b' ≠ l.b → (w.heap.setIfInBounds b o)[b']? = w.heap[b']? := fun b' hb' => heap_set_ne w o fun e => hb' (by rw [e, m2])
  refine ⟨h.write hr hlv m1 (by simp) hne hrow, hg.mono (fun b' hF => hne b' fun e => h.disj r old l b' hr hlv m1 e.symm hF) (fun _ h => h), Fr.write hr hlv m1 rfl rfl rfl (by simp) hne⟩
theorem mapUpdateK_sound (ok : CxOK cx) (h : HRep w μ F H) (hg : GOK cx w F) {t : TypeId} {m x y : AV} {K : HH → Prop} (hk : mapUpdateK cx t H K m x y) {u v z : Value} (hu : Rep w μ F m u) (hv : Rep w μ F x v) (hz : Rep w μ F y z) :
    ∃ w' H', (Instr.mapUpdate t u v z).run cx.P w = .ok () w' ∧ K H' ∧ HRep w' μ F H' ∧ GOK cx w' F ∧ Fr w μ F H w' μ F H' := by
  unfold mapUpdateK at hk
  split at hk
  rotate_left
  · exact hk.elim
  rename_i k e n0 b0 z0 ht
  obtain ⟨i, dd, zz, t1, t2, t3, t4, t5, _⟩ := (ok.ty _ _ ht).ok
  obtain rfl : dd = .map k e := t5
  split at hk
  rotate_left
  · exact hk.elim
  rename_i hs
  have hks := isStrT_ok ok hs
  split at hk
  rotate_left
  · exact hk.elim
  rename_i r s
  obtain ⟨l, b, m1, m2, rfl⟩ := Rep_mref hu
  obtain ⟨rfl, hps⟩ := Rep_lit hv
  split at hk
  rotate_left
  · exact hk.elim
  rename_i kv hr
  obtain ⟨kv', hf, hk⟩ := hk
  obtain ⟨l', hl', b', es, ck, g1, g2, g3, g4, g5⟩ := h.rows r _ hr
  obtain rfl := Option.some.inj (hl'.symm.trans m1)
  obtain rfl := Option.some.inj (g1.symm.trans m2)
  have hb : b' < w.heap.size := (Array.getElem?_eq_some_iff.1 g2).1
  have keepR : ∀ {o : Obj} {a : AV} {c : Value}, Rep w μ F a c → Rep { w with heap := w.heap.setIfInBounds b' o } μ F a c := fun hh => hh.mono (fun b2 hF => heap_set_ne w _ fun e => h.disj r _ l' b2 hr rfl m1 (by rw [m2, e]) hF) (fun _ h => h) (fun _ _ h => h)
  have hset := setS_ok (w := w) (μ := μ) (F := F) (es := es.toList) 0 (by simp [g3]) (fun j a b => by obtain ⟨x1, x2, _⟩ := g4 j a (by simpa using b); exact ⟨by simpa using x1, by simpa using x2⟩) hf
  rcases hset with ⟨a1, rfl⟩ | ⟨j, q, a1, a2, a3, rfl⟩
  · have hrow : RowRep { w with heap := w.heap.setIfInBounds b' (.map (es.push { key := .string s, val := z, born := ck }) (ck + 1)) } μ F l' (.map (kv ++ [(.lit (.string s), y)])) := by
      refine ⟨b', _, _, m2, heap_set_eq w _ hb, by simp [g3], fun i hi hi' => ?_, fun i j hi hj hij => ?_⟩
      · by_cases hlt : i < kv.length
        · have hlt' : i < es.size := by omega
          obtain ⟨x1, x2, x3⟩ := g4 i hlt hlt'
          rw [List.getElem_append_left hlt, Array.getElem_push_lt hlt']
          exact ⟨keepR x1, keepR x2, by omega⟩
        · have : i = kv.length := by simp at hi; omega
          subst this
          rw [List.getElem_append_right (Nat.le_refl _)]
          have hpush : (es.push { key := .string s, val := z, born := ck })[kv.length]'hi' = { key := .string s, val := z, born := ck } := by
            simp only [← g3, Array.getElem_push_eq]
          rw [hpush]
          simp only [Nat.sub_self, List.getElem_cons_zero]
          exact ⟨.frz (.lit hps), keepR hz, by omega⟩
      · have bl : ∀ i (h : i < es.size), es[i].born < ck := fun i hi => (g4 i (by omega) hi).2.2
        simp only [Array.size_push] at hi hj
        rw [Array.getElem_push, Array.getElem_push] at hij
        split at hij <;> split at hij
        · exact g5 i j _ _ hij
        · have := bl i ‹_›; simp only at hij; omega
        · have := bl j ‹_›; simp only at hij; omega
        · omega
    obtain ⟨k1, k2, k3⟩ := writeObj h hg hr rfl m1 m2 _ hb hrow rfl
    refine ⟨_, _, ?_, hk, k1, k2, k3⟩
    simp [Instr.mapUpdate, run_underlying t2, run_getObj_map' g2, run_checkKey_str hks, Instr.findKey, run_underlying hks, a1, run_setObj_map' g2, Result.andThen]
  · have hj : j < es.size := by simpa using a2
    have hrow : RowRep { w with heap := w.heap.setIfInBounds b' (.map (es.modify j fun e => { e with key := .string s, val := z }) ck) } μ F l' (.map (kv.set j (.lit (.string s), y))) := by
      refine ⟨b', _, _, m2, heap_set_eq w _ hb, by simp [g3], fun i hi hi' => ?_, fun i i2 hi hi2 hij => ?_⟩
      · simp only [List.length_set] at hi
        simp only [Array.size_modify] at hi'
        obtain ⟨x1, x2, x3⟩ := g4 i hi hi'
        rw [List.getElem_set, Array.getElem_modify]
        split
        · exact ⟨.frz (.lit hps), keepR hz, x3⟩
        · exact ⟨keepR x1, keepR x2, x3⟩
      · simp only [Array.size_modify] at hi hi2
        rw [Array.getElem_modify, Array.getElem_modify] at hij
        refine g5 i i2 hi hi2 ?_
        split at hij <;> split at hij <;> exact hij
    obtain ⟨k1, k2, k3⟩ := writeObj h hg hr rfl m1 m2 _ hb hrow rfl
    refine ⟨_, _, ?_, hk, k1, k2, k3⟩
    have hkey : es[j].key = .string s := by simpa using a3
    have hstay : (Instr.keyThatStays (.string s) (.string s)).run cx.P w = .ok (.string s) w := by
      have : (s == s) = true := by
        obtain ⟨a⟩ := s
        show (a == a) = true
        simp
      simp [Instr.keyThatStays, Instr.sameBits, this]
    simp [Instr.mapUpdate, run_underlying t2, run_getObj_map' g2, run_checkKey_str hks, Instr.findKey, run_underlying hks, a1, run_setObj_map' g2, Result.andThen, hj, hkey, hstay]
theorem rangeK_sound (ok : CxOK cx) (h : HRep w μ F H) (hg : GOK cx w F) {id : Id} {t : TypeId} {x : AV} {K : AV → HH → Prop} (hk : rangeK cx id t H K x) {v : Value} (hv : Rep w μ F x v) : Yields cx w μ F H (Instr.range t v) K := by
  unfold rangeK at hk
  split at hk
  rotate_left
  · exact hk.elim
  rename_i s hs
  have hks := isStrT_ok ok hs
  obtain ⟨rfl, _⟩ := Rep_lit hv
  obtain ⟨hid, hk⟩ := fresh_iff hk
  refine ⟨.pointer (some ⟨w.heap.size, 0, none⟩), { w with heap := w.heap.push (.stringIter s 0) }, .ptr id 0 0, _, mput μ id ⟨some w.heap.size, 0, 0, 0, 0⟩, F, ?_, hk, ?_,
    h.lay hid (by simp) (fun b hb => heap_push_old w _ hb) rfl ⟨w.heap.size, rfl, rfl, heap_push_new ..⟩,
    hg.mono (fun b hF => heap_push_old w _ (h.lt b hF)) (fun _ h => h), Fr.lay h hid rfl rfl rfl (by simp) (fun b hb => heap_push_old w _ hb) rfl⟩
  · simp [Instr.range, run_underlying hks, run_newObj, Result.andThen]
  · exact .ptr (l := ⟨some w.heap.size, 0, 0, 0, 0⟩) (i := 0) (j := 0) (mput_same ..) rfl
theorem nextK_sound (h : HRep w μ F H) (hg : GOK cx w F) {str : Bool} {x : AV} {K : AV → HH → Prop} (hk : nextK str H K x) {v : Value} {ty : TypeId} (hv : Rep w μ F x v) : Yields cx w μ F H (Instr.next v str ty) K := by
  unfold nextK at hk
  split at hk
  rotate_left
  · exact hk.elim
  rename_i r
  obtain ⟨l, b, m1, m2, rfl⟩ := Rep_ptr hv
  split at hk
  rotate_left
  · exact hk.elim
  rename_i s p hr
  obtain ⟨l', hl', b', g1, g2, g3⟩ := h.rows r _ hr
  obtain rfl := Option.some.inj (hl'.symm.trans m1)
  obtain rfl := Option.some.inj (g1.symm.trans m2)
  have hb : b' < w.heap.size := (Array.getElem?_eq_some_iff.1 g3).1
  have hbase : l'.base + 0 * l'.sz + 0 = 0 := by simp [g2]
  rw [hbase]
  unfold Br at hk
  split at hk
  · rename_i hp
    have hp : p < s.size := of_decide_eq_true hp
    obtain ⟨k1, k2, k3⟩ := writeObj (row := .iter s (p + (Utf8.decode s p).2)) h hg hr rfl m1 m2 (.stringIter s (p + (Utf8.decode s p).2)) hb ⟨b', m2, g2, heap_set_eq w _ hb⟩ rfl
    refine ⟨.tuple #[.bool true, .int .i64 p, .int .i32 (Utf8.decode s p).1], _, _, _, μ, F, ?_, hk, ?_, k1, k2, k3⟩
    · simp [Instr.next, run_getObj_iter g3, hp, run_setObj_iter g3, goInt, Result.andThen]
    · exact (All2.cons (rBool _) (.cons (.frz (.lit (show Plain (.int _ _) from trivial))) (.cons (.frz (.lit (show Plain (.int _ _) from trivial))) .nil))).tup
  · rename_i hp
    have hp : ¬ p < s.size := of_decide_eq_false hp
    refine .same h hg (v := .tuple #[.bool false]) ?_ hk (All2.cons (rBool _) .nil).tup
    simp [Instr.next, run_getObj_iter g3, hp, Result.andThen]
end
end Go.Eng
/- Soundness, thirteenth part: every operation, put together. -/
namespace Go.Eng
section
variable {cx : Cx} {w : World} {μ : Id → Option Loc} {F : Nat → Prop} {H : HH} {T : TT} {a : Act}
theorem opK_sound (ok : CxOK cx) (h : HRep w μ F H) (hg : GOK cx w F) (hT : TOKs w μ F T a) {quiet : Bool} {id : Id} {o : Oper} {K KP : AV → HH → Prop} (hk : opK cx quiet id o.op T H K KP) : Goes cx o a w μ F H K KP := by
  obtain ⟨dst, op, type, pos, after, guard⟩ := o
  simp only at hk
  unfold opK at hk
  split at hk
  · -- move
    obtain ⟨v, h1, hk⟩ := withE_iff hk
    exact ⟨fun next Q hn _ => hn _ w v H μ F hk (ev_sound hg hT h1) h hg (.refl ..)⟩
  · -- assign
    obtain ⟨v, h1, hk⟩ := withE_iff hk
    exact ⟨fun next Q hn _ => hn _ w v H μ F hk (ev_sound hg hT h1) h hg (.refl ..)⟩
  · -- pick
    obtain ⟨c, h1, hk⟩ := withE_iff hk
    split at hk
    rotate_left
    · exact hk.elim
    rename_i t
    have hc := (Rep_lit (ev_sound hg hT h1)).1
    unfold Br at hk
    split at hk
    · obtain ⟨v, h2, hk⟩ := withE_iff hk
      refine .value (.same h hg (s := pure _) rfl hk (ev_sound hg hT h2)) fun v w' hr => ?_
      cases hr
      simp [execOp, hc, asBool]
    · obtain ⟨v, h2, hk⟩ := withE_iff hk
      refine .value (.same h hg (s := pure _) rfl hk (ev_sound hg hT h2)) fun v w' hr => ?_
      cases hr
      simp [execOp, hc, asBool]
  · -- alloc
    split at hk
    · rename_i ht
      exact .value (alloc_sound ok h hg ht hk) fun v w' hr => by simp [execOp, hr]
    · exact hk.elim
  · -- box
    rename_i t x
    obtain ⟨v, h1, hk⟩ := withE_iff hk
    split at hk
    rotate_left
    · exact hk.elim
    rename_i ht
    split at hk
    rotate_left
    · exact hk.elim
    rename_i hn
    obtain ⟨i, dd, zz, t1, t2, t3, t4, t5, t6, t7, t8, t9, t10, t11⟩ := (ok.ty _ _ ht).ok
    exact .value (boxop_sound (t := t) h hg t11 (ev_sound hg hT h1) (Nat.eq_of_beq_eq_true hn) hk) fun v w' hr => by simp [execOp, hr]
  · -- build
    rename_i t ps
    split at hk
    rotate_left
    · exact hk.elim
    rename_i ht
    obtain ⟨l, hk, hl⟩ := partsK_iff hk
    refine .value (build_sound ok h hg ht (parts_sound hg hT hl) hk) fun v w' hr => ?_
    have : (ps.map fun (x : Nat × Operand) => (x.1, a.eval x.2)) = ⟨ps.toList.map fun p => (p.1, a.eval p.2)⟩ := by apply Array.ext'; simp
    simp only [execOp]
    rw [this]
    simp [hr]
  · -- buildSlice
    rename_i t n ps
    split at hk
    rotate_left
    · exact hk.elim
    rename_i ht
    split at hk
    rotate_left
    · exact hk.elim
    rename_i he
    split at hk
    rotate_left
    · exact hk.elim
    rename_i c1 c2 c3
    obtain ⟨l, hk, hl⟩ := partsK_iff hk
    have hln : l.length = n := by rw [← hl.length]; exact Nat.eq_of_beq_eq_true c3
    refine .value (buildSlice_sound ok h hg ht he (Nat.le_of_ble_eq_true c1) (Nat.le_of_ble_eq_true c2) (parts_sound hg hT hl) hln hk) fun v w' hr => ?_
    have : (ps.map fun (x : Nat × Operand) => (x.1, a.eval x.2)) = ⟨ps.toList.map fun p => (p.1, a.eval p.2)⟩ := by apply Array.ext'; simp
    simp only [execOp]
    rw [this]
    simp [hr]
  · -- load
    obtain ⟨p, h1, hk⟩ := withE_iff hk
    obtain ⟨v, av, k1, k2, k3⟩ := loadK_sound ok h hk (ev_sound hg hT h1)
    exact .value (.same h hg k1 k2 k3) fun v w' hr => by simp [execOp, hr]
  · -- store
    rename_i t0 p0 x0
    obtain ⟨p, h1, hk⟩ := withE_iff hk
    obtain ⟨v, h2, hk⟩ := withE_iff hk
    split at hk
    rotate_left
    · exact hk.elim
    rename_i ht
    split at hk
    rotate_left
    · exact hk.elim
    rename_i hn
    obtain ⟨w', H', k1, k2, k3, k4, k5⟩ := storeK_sound ok h hg ht (Nat.eq_of_beq_eq_true hn) hk (ev_sound hg hT h1) (ev_sound hg hT h2)
    refine ⟨fun next Q hn _ => ?_⟩
    have := hn undef w' skipV H' μ F k2 (.frz (.lit (show Plain (.tuple #[]) from rfl))) k3 k4 k5
    unfold Oper.wp
    have hrun : (execOp a.eval { dst, op := .store t0 p0 x0, type, pos, after, guard }).run cx.P w = .ok .skip w' := by
      simp only [execOp, Sem.run_bind, k1, Result.andThen_ok, Sem.run_pure]
    rw [hrun]; exact this
  · -- nilCheck
    obtain ⟨v, h1, hk⟩ := withE_iff hk
    obtain ⟨k1, k2⟩ := nilCheckK_sound h hk (ev_sound hg hT h1)
    refine .value (.same h hg (s := pure _) rfl k1 (ev_sound hg hT h1)) fun v w' hr => ?_
    cases hr
    rcases k2 with ⟨a', e⟩ | ⟨t, y, e⟩ | ⟨f, x, y, e⟩ <;> simp only [execOp, e] <;> rfl
  · -- binOp
    obtain ⟨u, h1, hk⟩ := withE_iff hk
    obtain ⟨v, h2, hk⟩ := withE_iff hk
    split at hk
    rotate_left
    · exact hk.elim
    rename_i ht
    exact .value (binK_sound ok h hg ht hk (ev_sound hg hT h1) (ev_sound hg hT h2)) fun v w' hr => by
      simp only [execOp]
      rw [Sem.run_bind, hr]; rfl
  · -- unOp
    obtain ⟨v, h1, hk⟩ := withE_iff hk
    exact .value (unK_sound h hg hk (ev_sound hg hT h1)) fun v w' hr => by simp [execOp, hr]
  · -- convert
    obtain ⟨v, h1, hk⟩ := withE_iff hk
    exact .value (convK_sound ok h hg hk (ev_sound hg hT h1)) fun v w' hr => by simp [execOp, hr]
  · -- makeInterface
    rename_i t x
    obtain ⟨v, h1, hk⟩ := withE_iff hk
    split at hk
    · exact hk.elim
    · rename_i ti hne ht
      obtain ⟨i, dd, zz, t1, t2, t3, t4, t5, _⟩ := (ok.ty _ _ ht).ok
      have hni : ∀ ms, dd ≠ .interface ms := by
        rintro ms rfl
        obtain ⟨d, sz, bs, z⟩ := ti
        cases d <;> simp only [DOK] at t5 <;> first | (cases t5; done) | (obtain ⟨_, t5, _⟩ := t5; cases t5; done) | exact (t5.2 _ rfl).elim | (obtain ⟨_, _, _, t5⟩ := t5; cases t5; done) | exact hne _ _ _ rfl
      refine .value (.same h hg (s := Instr.makeInterface t (a.eval x)) ?_ hk (.ifc (ev_sound hg hT h1))) fun v w' hr => by simp [execOp, hr]
      simp only [Instr.makeInterface, Sem.run_bind, run_underlying t2, Result.andThen_ok]
      cases dd <;> first | exact absurd rfl (hni _) | rfl
    · exact hk.elim
  · -- makeFunc
    rename_i fn first cap
    obtain ⟨l1, hk, hl1⟩ := evs_iff hk
    obtain ⟨l2, hk, hl2⟩ := evs_iff hk
    have e1 := evs_sound hg hT hl1
    have e2 := evs_sound hg hT hl2
    have x1 : first.map a.eval = ⟨first.toList.map a.eval⟩ := by apply Array.ext'; simp
    have x2 : cap.map a.eval = ⟨cap.toList.map a.eval⟩ := by apply Array.ext'; simp
    refine .value (.same h hg (s := pure (.func fn (first.map a.eval) (cap.map a.eval))) rfl hk ?_) fun v w' hr => by
      cases hr; simp [execOp, Instr.makeFunc]
    rw [x1, x2]; exact .clo e1.length e2.length e1.get e2.get
  · -- makeSlice
    obtain ⟨u, h1, hk⟩ := withE_iff hk
    obtain ⟨v, h2, hk⟩ := withE_iff hk
    exact .value (makeSliceK_sound ok h hg hk (ev_sound hg hT h1) (ev_sound hg hT h2)) fun v w' hr => by simp [execOp, hr]
  · -- slice
    obtain ⟨v, h1, hk⟩ := withE_iff hk
    obtain ⟨lo, hk, e1⟩ := optE_sound hg hT hk
    obtain ⟨hi, hk, e2⟩ := optE_sound hg hT hk
    obtain ⟨mx, hk, e3⟩ := optE_sound hg hT hk
    exact .value (sliceK_sound ok h hg hk (ev_sound hg hT h1) e1 e2 e3) fun v w' hr => by simp [execOp, hr]
  · -- fieldAddr
    obtain ⟨v, h1, hk⟩ := withE_iff hk
    split at hk
    rotate_left
    · exact hk.elim
    rename_i ht
    exact .value (fieldAddrK_sound ok h hg ht hk (ev_sound hg hT h1)) fun v w' hr => by simp [execOp, hr]
  · -- indexAddr
    obtain ⟨u, h1, hk⟩ := withE_iff hk
    obtain ⟨v, h2, hk⟩ := withE_iff hk
    split at hk
    rotate_left
    · exact hk.elim
    rename_i ht
    split at hk
    rotate_left
    · exact hk.elim
    rename_i he
    exact .value (indexAddrK_sound ok h hg ht he hk (ev_sound hg hT h1) (ev_sound hg hT h2)) fun v w' hr => by simp [execOp, hr]
  · -- index
    obtain ⟨u, h1, hk⟩ := withE_iff hk
    obtain ⟨v, h2, hk⟩ := withE_iff hk
    split at hk
    rotate_left
    · exact hk.elim
    rename_i ht
    obtain ⟨i, dd, zz, t1, t2, t3, t4, t5, _⟩ := (ok.ty _ _ ht).ok
    obtain rfl : dd = .string := t5
    exact .value (indexK_sound h hg t2 hk (ev_sound hg hT h1) (ev_sound hg hT h2)) fun v w' hr => by simp [execOp, hr]
  · -- extract
    obtain ⟨v, h1, hk⟩ := withE_iff hk
    exact .value (extractK_sound h hg hk (ev_sound hg hT h1)) fun v w' hr => by simp [execOp, hr]
  · -- typeAssert
    rename_i x0 xt0 t0 ok0
    obtain ⟨v, h1, hk⟩ := withE_iff hk
    split at hk
    · exact hk.elim
    · rename_i ti hne ht
      obtain ⟨i, dd, zz, t1, t2, t3, t4, t5, _⟩ := (ok.ty _ _ ht).ok
      have hni : ∀ ms, cx.P.underlying t0 ≠ some (.interface ms) := by
        intro ms e
        rw [t2] at e; cases e
        obtain ⟨d, sz, bs, z⟩ := ti
        cases d <;> simp only [DOK] at t5 <;> first | (cases t5; done) | (obtain ⟨_, t5, _⟩ := t5; cases t5; done) | exact (t5.2 _ rfl).elim | (obtain ⟨_, _, _, t5⟩ := t5; cases t5; done) | exact hne _ _ _ rfl
      exact .value (assertK_sound (xt := xt0) ok h hg hni ⟨_, t2⟩ hk (ev_sound hg hT h1)) fun v w' hr => by simp [execOp, hr]
    · exact hk.elim
  · -- call
    rename_i c
    obtain ⟨callee, args, argTypes⟩ := c
    unfold callK at hk
    simp only at hk
    obtain ⟨l, hk2, hl⟩ := evs_iff hk
    clear hk
    have hk := hk2
    clear hk2
    have hargs := evs_sound hg hT hl
    have xa : args.map a.eval = ⟨args.toList.map a.eval⟩ := by apply Array.ext'; simp
    cases callee with
    | builtin b =>
      have run : ∀ {s : Sem Value}, (∀ cs, builtin b argTypes type cs ⟨args.toList.map a.eval⟩ = (do pure (.value (← s)))) → ∀ v w', s.run cx.P w = .ok v w' →
          (execOp a.eval { dst, op := .call { callee := .builtin b, args, argTypes }, type, pos, after, guard }).run cx.P w = .ok (.value v) w' := by
        intro s hs v w' hr
        simp only [execOp, resolve, xa, invoke, Sem.run_bind, Sem.run_pure, Result.andThen_ok, hs, hr]
      generalize args.toList.map a.eval = vs at hargs run
      cases b <;> simp only at hk <;> try exact hk.elim
      case append =>
        split at hk
        rotate_left
        · exact hk.elim
        rename_i t t2 rest x y hat
        obtain rfl : argTypes = ⟨t :: t2 :: rest⟩ := by rw [← hat]
        cases hargs with
        | cons hq1 hl1 =>
          rename_i va vr
          cases hl1 with
          | cons hq2 hl2 =>
            rename_i vb vr2
            cases hl2
            refine .value ?_ (run fun cs => rfl)
            have hrest : ∀ u v, Builtin.append_ ⟨t :: t2 :: rest⟩ type #[u, v] = Builtin.append_ #[t, t2] type #[u, v] := fun _ _ => rfl
            show Yields cx w μ F H (Builtin.append_ ⟨t :: t2 :: rest⟩ type #[va, vb]) K
            rw [hrest]
            unfold appendK at hk
            split at hk
            rotate_left
            · exact hk.elim
            rename_i e _ _ _ ht
            split at hk
            rotate_left
            · exact hk.elim
            rename_i d sz bs z he
            split at hk
            rotate_left
            · exact hk.elim
            rename_i hz1 hz2
            have hz1 := Nat.le_of_ble_eq_true hz1
            have hz2 := Nat.le_of_ble_eq_true hz2
            obtain ⟨i2, d2, z2, t1, t2', t3, t4, t5, t6, t7, t8, t9, t10, t11⟩ := (ok.ty e _ he).ok
            have hzl : z2.cells.size = sz := by
              have := (t9 w F).length
              simp only [Array.length_toList] at this t8
              omega
            have go : ((∃ e', cx.P.underlying t2 = some (.slice e')) ∨ cx.P.underlying t2 = some .string) → contentK H sz (fun m xs => appendTo sz bs id H m xs K x) y → Yields cx w μ F H (Builtin.append_ #[t, t2] type #[va, vb]) K := by
              intro hk2 hk
              obtain ⟨m, xs, news, hk, hc⟩ := contentK_sound h hk hq2
              exact appendTo_sound h hg (sz := sz) (bs := bs) (Nat.lt_of_lt_of_le Nat.zero_lt_one hz1) (slice_ok ok ht) t1 t6 t3 t4 hzl hk2 (Nat.lt_of_lt_of_le Nat.zero_lt_one hz2) hc hk hq1
            split at hk
            · rename_i e2 _ _ _ ht2
              exact go (.inl ⟨_, slice_ok ok ht2⟩) hk
            · rename_i ht2
              obtain ⟨i, dd, zz, s1, s2, s3, s4, s5, -⟩ := (ok.ty t2 _ ht2).ok
              obtain rfl : dd = .string := s5
              exact go (.inr s2) hk
            · exact hk.elim
      case len =>
        split at hk
        rotate_left
        · exact hk.elim
        rename_i t rest x hat
        obtain rfl : argTypes = ⟨t :: rest⟩ := by rw [← hat]
        split at hk
        rotate_left
        · exact hk.elim
        rename_i ht
        cases hargs with
        | cons hq hn =>
          cases hn
          exact .value (lenK_sound ok h hg ht hk hq) (run fun cs => rfl)
      case copy =>
        split at hk
        rotate_left
        · exact hk.elim
        rename_i t rest x y hat
        obtain rfl : argTypes = ⟨t :: rest⟩ := by rw [← hat]
        cases hargs with
        | cons hq1 hl1 =>
          cases hl1 with
          | cons hq2 hl2 =>
            cases hl2
            exact .value (copyK_sound ok h hg hk hq1 hq2) (run fun cs => rfl)
      case clear =>
        split at hk
        rotate_left
        · exact hk.elim
        rename_i t rest x hat
        obtain rfl : argTypes = ⟨t :: rest⟩ := by rw [← hat]
        cases hargs with
        | cons hq hn =>
          cases hn
          exact .value (clearK_sound ok h hg hk hq) (run fun cs => rfl)
      case min => exact .value (by simpa using minmax_sound (mx := false) (at_ := argTypes) (ty := type) h hg hk hargs) (run fun cs => rfl)
      case max => exact .value (by simpa using minmax_sound (mx := true) (at_ := argTypes) (ty := type) h hg hk hargs) (run fun cs => rfl)
    | value f =>
      simp only at hk
      split at hk
      rotate_left
      · exact hk.elim
      rename_i g first cap hf
      obtain ⟨fs, cs, e1, e2, e3⟩ := Rep_clo (ev_sound hg hT hf)
      refine Goes.call h hg hk ((e2.append hargs).append e3) ?_
      simp only [execOp, resolve, xa, e1, Deferred.ofValue, Sem.run_bind, Sem.run_pure, Result.andThen_ok, invoke]
      congr 2
      simp
    | invoke x name =>
      simp only at hk
      obtain ⟨v, h1, hk⟩ := withE_iff hk
      split at hk
      rotate_left
      · exact hk.elim
      rename_i t u
      split at hk
      rotate_left
      · exact hk.elim
      rename_i f hm
      obtain ⟨y, e1, e2⟩ := Rep_ifc (ev_sound hg hT h1)
      refine Goes.call h hg hk (.cons e2 hargs) ?_
      have hmm := ok.meth t name f hm y w
      simp only [execOp, resolve, xa, e1, Sem.run_bind, Sem.run_pure, Result.andThen_ok, invoke]
      simp only [Array.getElem?_append, List.getElem?_toArray]
      simp [callMethod, hmm]
      rw [List.take_of_length_le (by simp)]
  · -- panic
    rename_i p0
    obtain ⟨v, h1, hk⟩ := withE_iff hk
    split at hk
    rotate_left
    · exact hk.elim
    rename_i t u
    have hv := ev_sound hg hT h1
    obtain ⟨y, hy, _⟩ := Rep_ifc hv
    refine ⟨fun next Q _ hp => ?_⟩
    have := hp _ w _ H μ F hk hv h hg (.refl ..)
    unfold Oper.wp
    have hrun : (execOp a.eval { dst, op := .panic p0, type, pos, after, guard }).run cx.P w = .halt (.panic (.iface t y)) w := by
      simp only [execOp, hy, Instr.panic, Sem.run_bind, run_goPanic]; rfl
    rw [hrun]; rw [hy] at this; exact this
  · -- makeMap
    rename_i t0
    exact .value (makeMapK_sound (t := t0) h hg hk) fun v w' hr => by simp [execOp, hr]
  · -- lookup
    obtain ⟨u, h1, hk⟩ := withE_iff hk
    obtain ⟨v, h2, hk⟩ := withE_iff hk
    exact .value (lookupK_sound ok h hg hk (ev_sound hg hT h1) (ev_sound hg hT h2)) fun v w' hr => by simp [execOp, hr]
  · -- mapUpdate
    rename_i t0 m0 k0 v0
    obtain ⟨u, h1, hk⟩ := withE_iff hk
    obtain ⟨v, h2, hk⟩ := withE_iff hk
    obtain ⟨z, h3, hk⟩ := withE_iff hk
    obtain ⟨w', H', k1, k2, k3, k4, k5⟩ := mapUpdateK_sound ok h hg hk (ev_sound hg hT h1) (ev_sound hg hT h2) (ev_sound hg hT h3)
    refine ⟨fun next Q hn _ => ?_⟩
    have := hn undef w' skipV H' μ F k2 (.frz (.lit (show Plain (.tuple #[]) from rfl))) k3 k4 k5
    unfold Oper.wp
    have hrun : (execOp a.eval { dst, op := .mapUpdate t0 m0 k0 v0, type, pos, after, guard }).run cx.P w = .ok .skip w' := by
      simp only [execOp, Sem.run_bind, k1, Result.andThen_ok, Sem.run_pure]
    rw [hrun]; exact this
  · -- insert
    rename_i t0 m0 k0 v0
    obtain ⟨u, h1, hk⟩ := withE_iff hk
    obtain ⟨v, h2, hk⟩ := withE_iff hk
    obtain ⟨z, h3, hk⟩ := withE_iff hk
    obtain ⟨w', H', k1, k2, k3, k4, k5⟩ := mapUpdateK_sound ok h hg hk (ev_sound hg hT h1) (ev_sound hg hT h2) (ev_sound hg hT h3)
    refine ⟨fun next Q hn _ => ?_⟩
    have := hn undef w' skipV H' μ F k2 (.frz (.lit (show Plain (.tuple #[]) from rfl))) k3 k4 k5
    unfold Oper.wp
    have hrun : (execOp a.eval { dst, op := .insert t0 m0 k0 v0, type, pos, after, guard }).run cx.P w = .ok .skip w' := by
      simp only [execOp, Sem.run_bind, k1, Result.andThen_ok, Sem.run_pure]
    rw [hrun]; exact this
  · -- range
    obtain ⟨v, h1, hk⟩ := withE_iff hk
    exact .value (rangeK_sound ok h hg hk (ev_sound hg hT h1)) fun v w' hr => by simp [execOp, hr]
  · -- next
    obtain ⟨v, h1, hk⟩ := withE_iff hk
    exact .value (nextK_sound (ty := type) h hg hk (ev_sound hg hT h1)) fun v w' hr => by simp [execOp, hr]
  · exact hk.elim
end
end Go.Eng

/- Eng04: an engine for the program's code, and walks of its functions (K L M N). -/
import Derived.Test.YtlcepambcoobgaaGreatDoorEng03
import Derived.Laws.Small
import Derived.Laws.Pointers
/- Soundness, seventh part: addresses, lengths, slicing, arithmetic. -/
namespace Go.Eng
section
variable {cx : Cx} {w : World} {μ : Id → Option Loc} {F : Nat → Prop} {H : HH}
theorem idxK_iff {i : Int} {n : Nat} {K : Nat → Prop} (h : idxK i n K) : ∃ m : Nat, i = m ∧ m < n ∧ K m := by
  unfold idxK at h
  split at h
  · exact ⟨_, rfl, h.1, h.2⟩
  · exact h.elim
theorem within_iff {i : Int} {n : Nat} {K : Nat → Prop} (h : within i n K) : ∃ m : Nat, i = m ∧ m ≤ n ∧ K m := by
  unfold within at h
  split at h
  · exact ⟨_, rfl, h.1, h.2⟩
  · exact h.elim
theorem elem_ok (ok : CxOK cx) {e : TypeId} {d sz bs z} (he : cx.ty e = some ⟨d, sz, bs, z⟩) (w : World) : (sizeOf e).run cx.P w = .ok sz w := by
  obtain ⟨i, dd, zz, t1, t2, t3, _⟩ := (ok.ty e _ he).ok
  simp [sizeOf, typeInfo, t1, t3]
theorem slice_ok (ok : CxOK cx) {t e : TypeId} {sz bs z} (ht : cx.ty t = some ⟨.slice e, sz, bs, z⟩) : cx.P.underlying t = some (.slice e) := by
  obtain ⟨i, dd, zz, t1, t2, t3, t4, t5, _⟩ := (ok.ty t _ ht).ok
  obtain rfl : dd = .slice e := t5; exact t2
theorem indexAddrK_sound (ok : CxOK cx) (h : HRep w μ F H) (hg : GOK cx w F) {t e : TypeId} {n0 bs0 z0 d sz bs z} (ht : cx.ty t = some ⟨.slice e, n0, bs0, z0⟩) (he : cx.ty e = some ⟨d, sz, bs, z⟩) {v ix : AV} {K : AV → HH → Prop} (hk : indexAddrK H (fun r => K r H) sz v ix)
    {x y : Value} (hv : Rep w μ F v x) (hi : Rep w μ F ix y) : Yields cx w μ F H (Instr.indexAt t x y) K := by
  unfold indexAddrK at hk
  split at hk
  rotate_left
  · exact hk.elim
  obtain ⟨rfl, _⟩ := Rep_lit hi
  have run : ∀ (a : Addr) (m n k : Nat) kk, m < n → (Instr.indexAt t (.slice (some a) n k) (.int kk m)).run cx.P w = .ok (.pointer (some (a.add (m * sz)))) w := by
    intro a m n k kk hm
    simp [Instr.indexAt, asIntOf, run_underlying (slice_ok ok ht), elem_ok ok he]; omega
  have frozen : ∀ {c sz' bs' n el i kk}, Nat.beq sz sz' = true → RepF w F (.fsl c sz' bs' n el) x → idxK i n (fun m => K (.fptr sz' n el m 0) H) → Yields cx w μ F H (Instr.indexAt t x (.int kk i)) K := by
    intro c sz' bs' n el i kk hb hf hk
    obtain rfl := Nat.eq_of_beq_eq_true hb
    obtain ⟨m, rfl, hm, hk⟩ := idxK_iff hk
    cases hf with
    | fsE _ => omega
    | fs vs hn hF hc hkk hR hl hvs hr =>
      exact .same h hg (run _ _ _ _ _ hm) hk (.frz (by rw [Addr.add_mid]; exact .fp vs hm hF hl hvs hr))
  split at hk
  · split at hk
    · rename_i hb
      exact frozen hb (Rep_fsl hv) hk
    · exact hk.elim
  · rename_i r o n c
    split at hk
    rotate_left
    · exact hk.elim
    rename_i sz' bs' es hr
    split at hk
    rotate_left
    · exact hk.elim
    rename_i hb
    obtain rfl := Nat.eq_of_beq_eq_true hb
    obtain ⟨m, rfl, hm, hk⟩ := idxK_iff hk
    obtain ⟨l, hl, hh⟩ := Rep_row hv
    obtain ⟨l', hl', hrow⟩ := h.rows r _ hr
    obtain rfl := Option.some.inj (hl'.symm.trans hl)
    have hls : l'.sz = sz := hrow.1
    rcases hh with ⟨_, _, rfl, _⟩ | ⟨b, a, k, hb', hab, ha, hnk, _, _, rfl⟩
    · omega
    · obtain rfl := ha.resolve_left (by omega)
      have hp : Rep w μ F (.ptr r (o + m) 0) (.pointer (some ((⟨b, l'.base + o * l'.sz, none⟩ : Addr).add (m * sz)))) := by
        have := Rep.ptr (w := w) (F := F) (i := o + m) (j := 0) hl hb'
        rw [Addr.add_mid]
        rw [Nat.add_mul] at this
        rw [hls] at this ⊢
        rw [show l'.base + o * sz + m * sz = l'.base + (o * sz + m * sz) + 0 by omega]; exact this
      refine .same h hg (av := .ptr r (o + m) 0) (run _ _ _ _ _ hm) ?_ hp
      split at hk
      · simpa using hk
      · exact hk
  · split at hk
    rotate_left
    · exact hk.elim
    rename_i hd
    have hf := Rep_lz hv
    rw [hd] at hf
    split at hk
    · rename_i hb
      exact frozen hb hf hk
    · exact hk.elim
  · exact hk.elim
theorem fieldAddrK_sound (ok : CxOK cx) (h : HRep w μ F H) (hg : GOK cx w F) {t : TypeId} {d sz bs z} (ht : cx.ty t = some ⟨d, sz, bs, z⟩) {f : Nat} {v : AV} {K : AV → HH → Prop} (hk : fieldOff d f fun off => fieldAddrK off (fun r => K r H) v) {x : Value} (hv : Rep w μ F v x) :
    Yields cx w μ F H (Instr.fieldAt t x f) K := by
  obtain ⟨i, dd, zz, t1, t2, t3, t4, t5, _⟩ := (ok.ty t _ ht).ok
  unfold fieldOff at hk
  split at hk
  rotate_left
  · exact hk.elim
  rename_i offs
  split at hk
  rotate_left
  · exact hk.elim
  rename_i off n ho
  obtain ⟨fs, rfl, hfs⟩ := t5
  obtain ⟨hf, ho⟩ := List.getElem?_eq_some_iff.1 ho
  have hf' : f < fs.toList.length := by rw [← hfs.length]; exact hf
  obtain ⟨a1, a2, i', a3, a4⟩ := hfs.get f hf hf'
  rw [ho] at a1 a2 a4
  have hrun : ∀ b o, (Instr.fieldAt t (.pointer (some ⟨b, o, none⟩)) f).run cx.P w = .ok (.pointer (some ⟨b, o + off, none⟩)) w := by
    intro b o
    have hff : fs[f]? = some fs.toList[f] := by rw [← Array.getElem?_toList, List.getElem?_eq_getElem hf']
    have h0 : i'.size ≠ 0 := by rw [a4]; exact a2
    simp only [Instr.fieldAt, Sem.run_bind, run_underlying t2, Result.andThen_ok, hff, Instr.sureAddr, Sem.run_pure, fieldPlace, sizeOf, typeInfo, run_program, a3, h0, if_false, ← a1, Addr.add_mid]
  cases v <;> simp only [fieldAddrK] at hk
  case ptr r i j =>
    obtain ⟨l, b, h1, h2, rfl⟩ := Rep_ptr hv
    refine .same h hg (av := .ptr r i (j + off)) (hrun _ _) ?_ ?_
    · cases j with
      | zero => simpa using hk
      | succ j => exact hk
    · rw [Nat.add_assoc]; exact .ptr h1 h2
  case fptr sz n el i j =>
    have hf := Rep_fptr hv
    cases hf with
    | fp vs hi hF hl hvs hr =>
      refine .same h hg (av := .fptr sz n el i (j + off)) (hrun _ _) ?_ ?_
      · cases j with
        | zero => simpa using hk
        | succ j => exact hk
      · rw [Nat.add_assoc]; exact .frz (.fp vs hi hF hl hvs hr)
theorem lenK_sound (ok : CxOK cx) (h : HRep w μ F H) (hg : GOK cx w F) {t : TypeId} {d sz bs z} (ht : cx.ty t = some ⟨d, sz, bs, z⟩) {x : AV} {K : AV → HH → Prop} (hk : lenK d (fun v => K v H) x) {v : Value} (hv : Rep w μ F x v) {rest : List TypeId} {ty : TypeId} :
    Yields cx w μ F H (Builtin.len_ ⟨t :: rest⟩ ty #[v]) K := by
  obtain ⟨i, dd, zz, t1, t2, t3, t4, t5, _⟩ := (ok.ty t _ ht).ok
  cases d <;> simp only [lenK] at hk
  case string =>
    obtain rfl : dd = .string := t5
    split at hk
    · rename_i s
      obtain ⟨rfl, hp⟩ := Rep_lit hv
      refine .same h hg (v := goInt s.size) ?_ hk (.frz (.lit (show Plain (.int _ _) from trivial)))
      simp [Builtin.len_, run_underlying t2]
    · exact hk.elim
  case slice =>
    obtain ⟨e, rfl⟩ : ∃ e, dd = .slice e := ⟨_, t5⟩
    have frozen : ∀ {c sz bs n el}, RepF w F (.fsl c sz bs n el) v → K (.lit (.int .i64 n)) H → Yields cx w μ F H (Builtin.len_ ⟨t :: rest⟩ ty #[v]) K := by
      intro c sz bs n el hf hk
      obtain ⟨a, k, rfl⟩ : ∃ a k, v = .slice a n k := by cases hf <;> exact ⟨_, _, rfl⟩
      refine .same h hg (v := goInt n) ?_ hk (.frz (.lit (show Plain (.int _ _) from trivial)))
      simp [Builtin.len_, run_underlying t2]
    split at hk
    · exact frozen (Rep_fsl hv) hk
    · rename_i r o n c
      obtain ⟨a, k, rfl⟩ : ∃ a k, v = .slice a n k := by
        obtain ⟨l, hl, hh⟩ := Rep_row hv
        rcases hh with ⟨_, _, rfl, _, a, rfl⟩ | ⟨b, a, k, _, _, _, _, _, _, rfl⟩ <;> exact ⟨_, _, rfl⟩
      refine .same h hg (v := goInt n) ?_ hk (.frz (.lit (show Plain (.int _ _) from trivial)))
      simp [Builtin.len_, run_underlying t2]
    · have hf := Rep_lz hv
      split at hk
      · rename_i hd'
        rw [hd'] at hf; exact frozen hf hk
      · exact hk.elim
    · exact hk.elim
theorem bMax_iff {mx : Option AV} {cap : Nat} {k : Option Nat → Prop} (h : bMax mx cap k) : (mx = none ∧ k none) ∨ ∃ kk m, mx = some (.lit (.int kk ((m : Nat) : Int))) ∧ m ≤ cap ∧ k (some m) := by
  unfold bMax at h
  split at h
  · unfold asInt at h
    split at h
    · obtain ⟨m, rfl, h1, h2⟩ := within_iff h
      exact .inr ⟨_, m, rfl, h1, h2⟩
    · exact h.elim
  · exact .inl ⟨rfl, h⟩
theorem bHi_iff {hi : Option AV} {n cap : Nat} {k : Nat → Prop} (h : bHi hi n cap k) : (hi = none ∧ k n) ∨ ∃ kk m, hi = some (.lit (.int kk ((m : Nat) : Int))) ∧ m ≤ cap ∧ k m := by
  unfold bHi at h
  split at h
  · unfold asInt at h
    split at h
    · obtain ⟨m, rfl, h1, h2⟩ := within_iff h
      exact .inr ⟨_, m, rfl, h1, h2⟩
    · exact h.elim
  · exact .inl ⟨rfl, h⟩
theorem bLo_iff {lo : Option AV} {n : Nat} {k : Nat → Prop} (h : bLo lo n k) : (lo = none ∧ k 0) ∨ ∃ kk m, lo = some (.lit (.int kk ((m : Nat) : Int))) ∧ m ≤ n ∧ k m := by
  unfold bLo at h
  split at h
  · unfold asInt at h
    split at h
    · obtain ⟨m, rfl, h1, h2⟩ := within_iff h
      exact .inr ⟨_, m, rfl, h1, h2⟩
    · exact h.elim
  · exact .inl ⟨rfl, h⟩
/-- Optional operands and their values. -/
def OptR (w : World) (μ : Id → Option Loc) (F : Nat → Prop) : Option AV → Option Value → Prop
  | none, none => True
  | some a, some v => Rep w μ F a v
  | _, _ => False
theorem OptR.none {x} (h : OptR w μ F none x) : x = none := by cases x <;> simp_all [OptR]
theorem OptR.lit {u x} (h : OptR w μ F (some (.lit u)) x) : x = some u := by
  cases x with
  | none => exact h.elim
  | some v => rw [(Rep_lit h).1]
/-- The bounds, as the model finds them; it may know of a greater capacity. -/
theorem bndK_sound {P : Program} {isS : Bool} {lo hi mx : Option AV} {n cap cap' : Nat} {k : Nat → Nat → Option Nat → Prop} (hk : bndK lo hi mx n cap k) (hn : n ≤ cap) (hc : cap ≤ cap') {vl vh vm : Option Value} (h1 : OptR w μ F lo vl) (h2 : OptR w μ F hi vh) (h3 : OptR w μ F mx vm) :
    ∃ l h m, (Instr.sliceBounds isS n cap' vl vh vm).run P w = .ok (l, h, m.getD cap') w ∧ l ≤ h ∧ h ≤ m.getD cap ∧ m.getD cap ≤ cap ∧ k l h m := by
  have bnd : ∀ (kk : IntKind) (a b : Nat) c, a ≤ b → (Instr.sliceBound (.int kk a) b c).run P w = .ok a w := by
    intro kk a b c hab
    have : (a : Int) ≤ (b : Int) := by omega
    simp [Instr.sliceBound, asIntOf, this]
  unfold bndK at hk
  split at hk
  · exact hk.elim
  rename_i hne
  rcases bMax_iff hk with ⟨rfl, hk⟩ | ⟨km, m, rfl, hm, hk⟩
  · obtain rfl := h3.none
    rcases bHi_iff hk with ⟨rfl, hk⟩ | ⟨kh, hh, rfl, hhi, hk⟩
    · obtain rfl := h2.none
      rcases bLo_iff hk with ⟨rfl, hk⟩ | ⟨kl, l, rfl, hl, hk⟩
      · obtain rfl := h1.none
        exact ⟨0, n, none, by simp [Instr.sliceBounds], Nat.zero_le _, hn, Nat.le_refl _, hk⟩
      · obtain rfl := h1.lit
        exact ⟨l, n, none, by simp [Instr.sliceBounds, bnd _ _ _ _ hl], hl, hn, Nat.le_refl _, hk⟩
    · obtain rfl := h2.lit
      rcases bLo_iff hk with ⟨rfl, hk⟩ | ⟨kl, l, rfl, hl, hk⟩
      · obtain rfl := h1.none
        exact ⟨0, hh, none, by simp [Instr.sliceBounds, bnd _ _ _ _ (Nat.le_trans hhi hc)], Nat.zero_le _, hhi, Nat.le_refl _, hk⟩
      · obtain rfl := h1.lit
        exact ⟨l, hh, none, by simp [Instr.sliceBounds, bnd _ _ _ _ (Nat.le_trans hhi hc), bnd _ _ _ _ hl], hl, hhi, Nat.le_refl _, hk⟩
  · obtain rfl := h3.lit
    rcases bHi_iff hk with ⟨rfl, hk⟩ | ⟨kh, hh, rfl, hhi, hk⟩
    · exact (hne _ rfl rfl).elim
    · obtain rfl := h2.lit
      rcases bLo_iff hk with ⟨rfl, hk⟩ | ⟨kl, l, rfl, hl, hk⟩
      · obtain rfl := h1.none
        exact ⟨0, hh, some m, by simp [Instr.sliceBounds, bnd _ _ _ _ (Nat.le_trans hm hc), bnd _ _ _ _ hhi], Nat.zero_le _, hhi, hm, hk⟩
      · obtain rfl := h1.lit
        exact ⟨l, hh, some m, by simp [Instr.sliceBounds, bnd _ _ _ _ (Nat.le_trans hm hc), bnd _ _ _ _ hhi, bnd _ _ _ _ hl], hl, hhi, hm, hk⟩
theorem capOf_eq (m c : Option Nat) (l : Nat) : ∀ k, capOf m c l = some k → (∃ m', m = some m' ∧ k = m' - l) ∨ (m = none ∧ ∃ c', c = some c' ∧ k = c' - l) := by
  intro k h
  unfold capOf at h
  split at h
  · exact .inl ⟨_, rfl, (Option.some.inj h).symm⟩
  · split at h
    · exact .inr ⟨rfl, _, rfl, (Option.some.inj h).symm⟩
    · cases h
theorem sliceF_sound (ok : CxOK cx) (h : HRep w μ F H) (hg : GOK cx w F) {t e : TypeId} {n0 bs0 z0 d sz bs z} (ht : cx.ty t = some ⟨.slice e, n0, bs0, z0⟩) (he : cx.ty e = some ⟨d, sz, bs, z⟩) {lo hi mx : Option AV} {x : AV} {K : AV → HH → Prop} (hk : sliceF sz lo hi mx (fun r => K r H) x)
    {v : Value} (hv : RepF w F x v) {vl vh vm : Option Value} (h1 : OptR w μ F lo vl) (h2 : OptR w μ F hi vh) (h3 : OptR w μ F mx vm) : Yields cx w μ F H (Instr.sliceAt t v vl vh vm) K := by
  unfold sliceF at hk
  split at hk
  rotate_left
  · exact hk.elim
  rename_i c sz' bs' n el
  split at hk
  rotate_left
  · exact hk.elim
  rename_i hb
  obtain rfl := Nat.eq_of_beq_eq_true hb
  obtain ⟨a, k, rfl, hnk, hck⟩ : ∃ a k, v = .slice a n k ∧ n ≤ k ∧ ∀ m, c = some m → k = m := by
    cases hv with
    | fsE hc => exact ⟨_, _, rfl, Nat.zero_le _, hc⟩
    | fs _ _ _ hc hk => exact ⟨_, _, rfl, hk, hc⟩
  obtain ⟨l, hh, m, hrun, hlh, hhm, hmn, hk⟩ := bndK_sound (P := cx.P) (isS := true) hk (Nat.le_refl _) hnk h1 h2 h3
  have hu := slice_ok ok ht
  have hfull : (Instr.sliceAt t (.slice a n k) vl vh vm).run cx.P w = .ok (.slice (if m.getD k = l then a else a.map (·.add (l * sz))) (hh - l) (m.getD k - l)) w := by
    simp [Instr.sliceAt, Instr.slice, run_underlying hu, hrun, elem_ok ok he]
  have hhk : hh ≤ m.getD k := by cases m <;> simp at hhm hmn ⊢ <;> omega
  have hcap : ∀ q, capOf m c l = some q → m.getD k - l = q := by
    intro q hq
    rcases capOf_eq _ _ _ q hq with ⟨m', rfl, rfl⟩ | ⟨rfl, c', rfl, rfl⟩
    · rfl
    · simp [hck _ rfl]
  have fin : RepF w F (.fsl (capOf m c l) sz bs' (hh - l) (fun i => el (l + i))) (.slice (if m.getD k = l then a else a.map (·.add (l * sz))) (hh - l) (m.getD k - l)) := by
    by_cases hz : hh - l = 0
    · rw [hz]; exact .fsE hcap
    · cases hv with
      | fsE hc => simp at hmn; cases m <;> simp at hhm hmn <;> omega
      | fs vs hn hF hc hkk hR hl hvs hr =>
        rename_i b o
        have hhn : hh ≤ n := by cases m <;> simp at hhm hmn <;> omega
        rw [if_neg (by omega)]
        simp only [Option.map_some, Addr.add_mid]
        refine .fs (fun i j => vs (l + i) j) (by omega) hF hcap (by omega) (Nat.le_trans (Nat.mul_le_mul_right _ (by omega)) hR) (fun i hi => hl _ (by omega)) (fun i j hi hj => ?_) (fun i j hi hj => hr _ _ (by omega) hj)
        have := hvs (l + i) j (by omega) hj
        rw [Nat.add_mul] at this
        rw [show o + l * sz + i * sz + j = o + (l * sz + i * sz) + j by omega]; exact this
  refine .same h hg hfull ?_ (.frz fin)
  split at hk
  · simpa using hk
  · exact hk
theorem rowFrom_iff {K : AV → Prop} {r : Id} {o l h : Nat} {c : Option Nat} (hk : rowFrom K r o l h c) : K (.row r (o + l) (h - l) c) := by
  unfold rowFrom at hk
  split at hk
  · simpa using hk
  · split at hk
    · simpa using hk
    · exact hk
theorem sliceK_sound (ok : CxOK cx) (h : HRep w μ F H) (hg : GOK cx w F) {t : TypeId} {lo hi mx : Option AV} {x : AV} {K : AV → HH → Prop} (hk : sliceK cx t H lo hi mx (fun r => K r H) x)
    {v : Value} (hv : Rep w μ F x v) {vl vh vm : Option Value} (h1 : OptR w μ F lo vl) (h2 : OptR w μ F hi vh) (h3 : OptR w μ F mx vm) : Yields cx w μ F H (Instr.sliceAt t v vl vh vm) K := by
  unfold sliceK at hk
  split at hk
  · rename_i ht
    obtain ⟨i, dd, zz, t1, t2, t3, t4, t5, _⟩ := (ok.ty t _ ht).ok
    obtain rfl : dd = .string := t5
    split at hk
    rotate_left
    · exact hk.elim
    rename_i s
    obtain ⟨rfl, hp⟩ := Rep_lit hv
    split at hk
    rotate_left
    · exact hk.elim
    obtain ⟨l, hh, m, hrun, hlh, hhm, hmn, hk⟩ := bndK_sound (P := cx.P) (isS := false) hk (Nat.le_refl _) (Nat.le_refl _) h1 h2 h3
    obtain rfl := h3.none
    have hsz : (s.extract l hh).size ≤ R := by
      have : (s.extract l hh).size ≤ s.size := by rw [ByteArray.size_extract]; omega
      exact Nat.le_trans this hp
    refine .same h hg (v := .string (s.extract l hh)) ?_ hk (.frz (.lit hsz))
    simp [Instr.sliceAt, Instr.slice, run_underlying t2, hrun]
  · rename_i e n0 bs0 z0 ht
    split at hk
    rotate_left
    · exact hk.elim
    rename_i d sz bs z he
    split at hk
    · exact sliceF_sound ok h hg ht he hk (Rep_fsl hv) h1 h2 h3
    · exact sliceF_sound ok h hg ht he hk (Rep_lz hv) h1 h2 h3
    · rename_i r o n c
      split at hk
      rotate_left
      · exact hk.elim
      rename_i sz' bs' es hr
      split at hk
      rotate_left
      · exact hk.elim
      rename_i hb
      obtain rfl := Nat.eq_of_beq_eq_true hb
      obtain ⟨hoe, hk⟩ := hk
      obtain ⟨lc, hl, hh⟩ := Rep_row hv
      obtain ⟨l', hl', hrow⟩ := h.rows r _ hr
      obtain rfl := Option.some.inj (hl'.symm.trans hl)
      obtain ⟨a1, a2, a3, a4, a5⟩ := hrow
      have hu := slice_ok ok ht
      rcases hh with ⟨hb, rfl, rfl, hc, a, rfl⟩ | ⟨b, a, k, hb, hab, ha, hnk, hc1, hc2, rfl⟩
      · rw [hb] at a5
        obtain ⟨rfl, hcap⟩ := a5
        have hcap0 : rcap c (([] : List (List AV)).length - 0) = 0 := by cases c <;> simp [rcap]
        rw [hcap0] at hk
        obtain ⟨l, q, m, hrun, hlh, hhm, hmn, hk⟩ := bndK_sound (P := cx.P) (isS := true) hk (Nat.le_refl _) (Nat.le_refl 0) h1 h2 h3
        obtain rfl : q = 0 := by omega
        obtain rfl : l = 0 := by omega
        have hm0 : m.getD 0 = 0 := by cases m <;> simp at hmn ⊢; exact hmn
        refine .same h hg (v := .slice a 0 0) ?_ hk (.row0 hl hb ?_)
        · simp [Instr.sliceAt, Instr.slice, run_underlying hu, hrun, elem_ok ok he, hm0]
        · intro q hq
          rcases capOf_eq _ _ _ q hq with ⟨m', rfl, rfl⟩ | ⟨rfl, c', rfl, rfl⟩
          · simp at hm0; omega
          · simp [hc _ rfl]
      · have hkcap : rcap c (es.length - o) ≤ k := by
          cases c with
          | none => have := hc1 rfl; simp only [rcap]; omega
          | some q => obtain ⟨rfl, _⟩ := hc2 _ rfl; simp only [rcap]; omega
        have key : ∀ cap0, cap0 ≤ k → (cap0 ≤ es.length - o) → ∀ {vl vh vm : Option Value}, OptR w μ F lo vl → OptR w μ F hi vh → OptR w μ F mx vm → n ≤ cap0 → bndK lo hi mx n cap0 (fun l h m => rowFrom (fun r => K r H) r o l h (capOf m c l)) → Yields cx w μ F H (Instr.sliceAt t (.slice (some a) n k) vl vh vm) K := by
          intro cap0 hc0 hes vl vh vm h1 h2 h3 hn hk
          obtain ⟨l, q, m, hrun, hlh, hhm, hmn, hk⟩ := bndK_sound (P := cx.P) (isS := true) hk hn hc0 h1 h2 h3
          have hfull : (Instr.sliceAt t (.slice (some a) n k) vl vh vm).run cx.P w = .ok (.slice (if m.getD k = l then some a else some (a.add (l * sz))) (q - l) (m.getD k - l)) w := by
            simp [Instr.sliceAt, Instr.slice, run_underlying hu, hrun, elem_ok ok he]
          have hqk : q ≤ m.getD k := by cases m <;> simp at hhm hmn ⊢ <;> omega
          have hK : K (.row r (o + l) (q - l) (capOf m c l)) H := rowFrom_iff hk
          refine .same h hg hfull hK ?_
          have hcA : capOf m c l = none → o + l + (m.getD k - l) = l'.cap := by
            intro hn
            unfold capOf at hn
            cases m with
            | some m => simp at hn
            | none =>
              cases c with
              | some c => simp at hn
              | none => have := hc1 rfl; simp at hqk ⊢; omega
          have hcB : ∀ p, capOf m c l = some p → m.getD k - l = p ∧ o + l + p ≤ l'.cap := by
            intro p hp
            have hok : o + k ≤ l'.cap := by
              cases c with
              | none => have := hc1 rfl; omega
              | some c => obtain ⟨rfl, h⟩ := hc2 _ rfl; exact h
            rcases capOf_eq _ _ _ p hp with ⟨m', rfl, rfl⟩ | ⟨rfl, c', rfl, rfl⟩
            · simp at hqk hmn ⊢; omega
            · obtain ⟨rfl, h⟩ := hc2 _ rfl; simp at hqk ⊢; omega
          by_cases hml : m.getD k = l
          · rw [if_pos hml]
            exact .row hl hb hab (.inl (by omega)) (by omega) hcA hcB
          · rw [if_neg hml]
            have hk0 : k ≠ 0 := by cases m <;> simp at hml hqk hmn <;> omega
            obtain rfl := ha.resolve_left hk0
            refine .row hl hb (by rw [Addr.add_mid]) (.inr ?_) (by omega) hcA hcB
            rw [Addr.add_mid, a1, Nat.add_mul]
            rw [show l'.base + o * sz + l * sz = l'.base + (o * sz + l * sz) by omega]
        refine key _ hkcap (by cases c <;> simp [rcap] <;> omega) h1 h2 h3 ?_ hk
        cases c with
        | none => simp only [rcap]; omega
        | some q => obtain ⟨rfl, _⟩ := hc2 _ rfl; simp only [rcap]; omega
    · exact hk.elim
  · exact hk.elim
end
end Go.Eng
/- Soundness, eighth part: arithmetic, comparisons, conversions, copy, clear. -/
namespace Go.Eng
section
variable {cx : Cx} {w : World} {μ : Id → Option Loc} {F : Nat → Prop} {H : HH}
theorem plainInt (k : IntKind) (n : Int) : Plain (.int k n) := trivial
theorem plainBool (b : Bool) : Plain (.bool b) := trivial
theorem rInt (k : IntKind) (n : Int) : Rep w μ F (.lit (.int k n)) (.int k n) := .frz (.lit (plainInt k n))
theorem rBool (b : Bool) : Rep w μ F (.lit (.bool b)) (.bool b) := .frz (.lit (plainBool b))
theorem ba_eq {a b : ByteArray} : (a.toList == b.toList) = decide (a = b) := by
  rw [Bool.eq_iff_iff]
  simp only [beq_iff_eq, decide_eq_true_eq]
  constructor
  · intro h
    rw [toList_eq, toList_eq] at h
    cases a; cases b; congr 1; exact Array.ext' h
  · rintro rfl; rfl
theorem unK_sound (h : HRep w μ F H) (hg : GOK cx w F) {op : UnOp} {x : AV} {K : AV → HH → Prop} (hk : unK op (fun r => K r H) x) {v : Value} (hv : Rep w μ F x v) : Yields cx w μ F H (Op.unary op v) K := by
  unfold unK at hk
  split at hk
  · obtain ⟨rfl, _⟩ := Rep_lit hv
    exact .same h hg rfl hk (rInt _ _)
  · obtain ⟨rfl, _⟩ := Rep_lit hv
    exact .same h hg rfl hk (rBool _)
  · obtain ⟨rfl, _⟩ := Rep_lit hv
    exact .same h hg rfl hk (rInt _ _)
  · exact hk.elim
theorem nilCheckK_sound (h : HRep w μ F H) {x : AV} {K : AV → HH → Prop} (hk : nilCheckK (fun r => K r H) x) {v : Value} (hv : Rep w μ F x v) :
    K x H ∧ ((∃ a, v = .pointer (some a)) ∨ (∃ t y, v = .iface t y) ∨ ∃ f a b, v = .func (.func f) a b) := by
  unfold nilCheckK at hk
  split at hk
  · obtain ⟨_, _, _, _, rfl⟩ := Rep_ptr hv; exact ⟨hk, .inl ⟨_, rfl⟩⟩
  · have := Rep_fptr hv; cases this; exact ⟨hk, .inl ⟨_, rfl⟩⟩
  · obtain ⟨_, rfl, _⟩ := Rep_ifc hv; exact ⟨hk, .inr (.inl ⟨_, _, rfl⟩)⟩
  · obtain ⟨_, _, rfl, _⟩ := Rep_clo hv; exact ⟨hk, .inr (.inr ⟨_, _, _, rfl⟩)⟩
  · exact hk.elim
theorem indexK_sound (h : HRep w μ F H) (hg : GOK cx w F) {t : TypeId} (hu : cx.P.underlying t = some .string) {x ix : AV} {K : AV → HH → Prop} (hk : indexK (fun r => K r H) x ix) {v y : Value} (hv : Rep w μ F x v) (hi : Rep w μ F ix y) : Yields cx w μ F H (Instr.index t v y) K := by
  unfold indexK at hk
  split at hk
  rotate_left
  · exact hk.elim
  rename_i s _ _
  obtain ⟨rfl, _⟩ := Rep_lit hv
  obtain ⟨rfl, _⟩ := Rep_lit hi
  obtain ⟨m, rfl, hm, hk⟩ := idxK_iff hk
  refine .same h hg (v := .int .u8 (s.data.getD m 0).toNat) ?_ hk (rInt _ _)
  have hm' : m < s.data.size := hm
  have : s[m]? = some (s.data.getD m 0) := by
    rw [getElem?_pos s m hm]
    simp only [Array.getD, hm', dif_pos]; rfl
  simp [Instr.index, asIntOf, run_underlying hu, this]
theorem extractK_sound (h : HRep w μ F H) (hg : GOK cx w F) {i : Nat} {x : AV} {K : AV → HH → Prop} (hk : extractK i (fun r => K r H) x) {v : Value} (hv : Rep w μ F x v) : Yields cx w μ F H (Instr.extract v i) K := by
  unfold extractK at hk
  split at hk
  rotate_left
  · exact hk.elim
  split at hk
  rotate_left
  · exact hk.elim
  rename_i l u hu
  obtain ⟨vs, rfl, hvs⟩ := Rep_tup hv
  obtain ⟨hi, rfl⟩ := List.getElem?_eq_some_iff.1 hu
  have hi' : i < vs.length := by rw [← hvs.length]; exact hi
  refine .same h hg (v := vs[i]) ?_ hk (hvs.get i hi hi')
  simp [Instr.extract, hi']
theorem wholeV_sound (ok : CxOK cx) {t : TypeId} {z : AV} (hz : wholeV (cx.ty t) = some z) : ∃ v, (zeroValue t).run cx.P w = .ok v w ∧ Rep w μ F z v := by
  unfold wholeV at hz
  split at hz
  rotate_left
  · cases hz
  rename_i d n bs zs ht
  obtain ⟨i, dd, zz, t1, t2, t3, t4, t5, t6, t7, t8, t9, t10, _⟩ := (ok.ty t _ ht).ok
  refine ⟨zz, by simp [zeroValue, typeInfo, t1, t6], ?_⟩
  have h9 := (t9 w F).mono (Q' := Rep w μ F) fun _ _ h => .frz h
  simp only at t7 h9
  split at hz
  · rename_i ha
    rw [ha] at t7
    obtain ⟨cs, rfl⟩ := t7
    cases hz
    exact h9.agg
  · rename_i ha
    rw [ha] at t7
    split at hz
    · cases hz
      rw [cells_one t7] at h9
      cases h9 with | cons hq _ => exact hq
    · cases hz
theorem assertK_sound (ok : CxOK cx) (h : HRep w μ F H) (hg : GOK cx w F) {t xt : TypeId} {b : Bool} {x : AV} {K : AV → HH → Prop} (hni : ∀ ms, cx.P.underlying t ≠ some (.interface ms)) (hu : ∃ d, cx.P.underlying t = some d) (hk : assertK cx t b (fun r => K r H) x) {v : Value} (hv : Rep w μ F x v) : Yields cx w μ F H (Instr.typeAssert v xt t b) K := by
  obtain ⟨dd, hu⟩ := hu
  have hdd : ∀ ms, dd ≠ .interface ms := fun ms e => hni ms (e ▸ hu)
  unfold assertK at hk
  split at hk
  · exact hk.elim
  have two : ∀ {a c : AV} {y : Value} {bb : Bool}, Rep w μ F a y → Rep w μ F (.tup [a, .lit (.bool bb)]) (.tuple #[y, .bool bb]) := fun hy => (All2.cons hy (.cons (rBool _) .nil)).tup
  split at hk
  · obtain ⟨rfl, _⟩ := Rep_lit hv
    split at hk
    · rename_i z hz
      obtain ⟨y, h1, h2⟩ := wholeV_sound (w := w) (μ := μ) (F := F) ok hz
      refine .same h hg (v := .tuple #[y, .bool false]) ?_ hk (two (c := z) h2)
      unfold Instr.typeAssert
      simp only [Sem.run_bind, run_underlying hu, Result.andThen_ok]
      cases dd <;> first | exact absurd rfl (hdd _) | simp [h1]
    · exact hk.elim
  · rename_i u a
    obtain ⟨y, rfl, hy⟩ := Rep_ifc hv
    split at hk
    · rename_i hb
      obtain rfl := Nat.eq_of_beq_eq_true hb
      refine .same h hg (v := .tuple #[y, .bool true]) ?_ hk (two (c := a) hy)
      unfold Instr.typeAssert
      simp only [Sem.run_bind, run_underlying hu, Result.andThen_ok]
      cases dd <;> first | exact absurd rfl (hdd _) | simp
    · rename_i hb
      have hne : u ≠ t := fun e => by subst e; simp [Nat.beq_refl] at hb
      split at hk
      · rename_i z hz
        obtain ⟨q, h1, h2⟩ := wholeV_sound (w := w) (μ := μ) (F := F) ok hz
        refine .same h hg (v := .tuple #[q, .bool false]) ?_ hk (two (c := z) h2)
        unfold Instr.typeAssert
        simp only [Sem.run_bind, run_underlying hu, Result.andThen_ok]
        cases dd <;> first | exact absurd rfl (hdd _) | simp [h1, hne]
      · exact hk.elim
  · exact hk.elim
theorem eqlB_sound {op : BinOp} {b : Bool} {K : AV → Prop} (hk : eqlB op b K) : (op = .eql ∧ K (.lit (.bool b))) ∨ (op = .neq ∧ K (.lit (.bool (!b)))) := by
  unfold eqlB at hk
  split at hk
  · exact .inl ⟨rfl, hk⟩
  · exact .inr ⟨rfl, hk⟩
  · exact hk.elim
theorem ikeq_eq {a b : IntKind} (h : ikeq a b = true) : a = b := by cases a <;> cases b <;> first | rfl | (simp [ikeq] at h)
theorem run_equalIn_iface_nil {P : Program} (w : World) (d : Nat) (t : TypeId) (ms) (h : P.underlying t = some (.interface ms)) : (Op.equalIn (d + 1) t .nilIface .nilIface).run P w = .ok true w := by simp [Op.equalIn, run_underlying h]
theorem run_equalIn_iface_some {P : Program} (w : World) (d : Nat) (t u : TypeId) (v : Value) (ms) (h : P.underlying t = some (.interface ms)) : (Op.equalIn (d + 1) t (.iface u v) .nilIface).run P w = .ok false w := by simp [Op.equalIn, run_underlying h]
theorem run_equalIn_ptr_nil {P : Program} (w : World) (d : Nat) (t e : TypeId) (a : Option Addr) (h : P.underlying t = some (.pointer e)) : (Op.equalIn (d + 1) t (.pointer a) (.pointer none)).run P w = .ok a.isNone w := by cases a <;> simp [Op.equalIn, run_underlying h]
theorem run_equalIn_func_nil {P : Program} (w : World) (d : Nat) (t : TypeId) (a b c) (h : P.underlying t = some (.func a b c)) : (Op.equalIn (d + 1) t .nilFunc .nilFunc).run P w = .ok true w := by simp [Op.equalIn, run_underlying h]
theorem run_equalIn_func_some {P : Program} (w : World) (d : Nat) (t : TypeId) (f x y) (a b c) (h : P.underlying t = some (.func a b c)) : (Op.equalIn (d + 1) t (.func f x y) .nilFunc).run P w = .ok false w := by simp [Op.equalIn, run_underlying h]
theorem equal_eq (t : TypeId) (x y : Value) : Op.equal t x y = Op.equalIn (9999 + 1) t x y := rfl
theorem guard_nil {P : Program} (w : World) (op : BinOp) (t : TypeId) (x y : Operand) (hc : (isCst x || isCst y) = true) : (eqGuard op t x y .nilIface .nilIface).run P w = .ok () w := by
  cases x <;> cases y <;> first
    | (simp [isCst] at hc; done)
    | (unfold eqGuard; split <;> simp)
theorem nilK_sound (ok : CxOK cx) (h : HRep w μ F H) (hg : GOK cx w F) {op : BinOp} {t : TypeId} {d sz bs z} (ht : cx.ty t = some ⟨d, sz, bs, z⟩) {x y : Operand} {a b : AV} {K : AV → HH → Prop} (hk : nilK d (isCst x || isCst y) op (fun r => K r H) a b) {u v : Value} (hu : Rep w μ F a u) (hv : Rep w μ F b v) :
    Yields cx w μ F H (do eqGuard op t x y u v; binOp op t u v) K := by
  obtain ⟨i, dd, zz, t1, t2, t3, t4, t5, _⟩ := (ok.ty t _ ht).ok
  have go : ∀ {bb : Bool} {u v : Value}, (∀ op : BinOp, (eqGuard op t x y u v).run cx.P w = .ok () w) → (Op.equalIn (9999 + 1) t u v).run cx.P w = .ok bb w → (binOp .eql t u v = (do pure (.bool (← Op.equal t u v))) ∧ binOp .neq t u v = (do pure (.bool (!(← Op.equal t u v))))) → eqlB op bb (fun r => K r H) → Yields cx w μ F H (do eqGuard op t x y u v; binOp op t u v) K := by
    intro bb u v h1 h2 h3 h4
    rcases eqlB_sound h4 with ⟨rfl, hk2⟩ | ⟨rfl, hk2⟩
    · refine .same h hg (v := .bool bb) ?_ hk2 (rBool _)
      rw [Sem.run_bind, h1, Result.andThen_ok, h3.1, Sem.run_bind, equal_eq, h2]; rfl
    · refine .same h hg (v := .bool (!bb)) ?_ hk2 (rBool _)
      rw [Sem.run_bind, h1, Result.andThen_ok, h3.2, Sem.run_bind, equal_eq, h2]; rfl
  unfold nilK at hk
  split at hk
  · have t5 : dd = .pointer _ := t5
    subst t5
    split at hk
    · obtain ⟨rfl, _⟩ := Rep_lit hu
      obtain ⟨rfl, _⟩ := Rep_lit hv
      exact go (fun op => by unfold eqGuard; split <;> simp) (run_equalIn_ptr_nil w _ _ _ _ t2) ⟨rfl, rfl⟩ hk
    · obtain ⟨_, _, _, _, rfl⟩ := Rep_ptr hu
      obtain ⟨rfl, _⟩ := Rep_lit hv
      exact go (fun op => by unfold eqGuard; split <;> simp) (run_equalIn_ptr_nil w _ _ _ _ t2) ⟨rfl, rfl⟩ hk
    · have hf := Rep_fptr hu
      obtain ⟨rfl, _⟩ := Rep_lit hv
      cases hf
      exact go (fun op => by unfold eqGuard; split <;> simp) (run_equalIn_ptr_nil w _ _ _ _ t2) ⟨rfl, rfl⟩ hk
    · exact hk.elim
  · obtain ⟨ms, rfl⟩ : ∃ ms, dd = .interface ms := t5
    split at hk
    · obtain ⟨rfl, _⟩ := Rep_lit hu
      obtain ⟨rfl, _⟩ := Rep_lit hv
      split at hk
      rotate_left
      · exact hk.elim
      have hc : (isCst x || isCst y) = true := by assumption
      exact go (fun op => guard_nil w op t x y hc) (run_equalIn_iface_nil w _ _ _ t2) ⟨rfl, rfl⟩ hk
    · obtain ⟨_, rfl, _⟩ := Rep_ifc hu
      obtain ⟨rfl, _⟩ := Rep_lit hv
      exact go (fun op => by unfold eqGuard; split <;> simp) (run_equalIn_iface_some w _ _ _ _ _ t2) ⟨rfl, rfl⟩ hk
    · exact hk.elim
  · obtain ⟨p, q, r, rfl⟩ : ∃ a b c, dd = .func a b c := t5
    split at hk
    · obtain ⟨rfl, _⟩ := Rep_lit hu
      obtain ⟨rfl, _⟩ := Rep_lit hv
      exact go (fun op => by unfold eqGuard; split <;> simp) (run_equalIn_func_nil w _ _ _ _ _ t2) ⟨rfl, rfl⟩ hk
    · obtain ⟨_, _, rfl, _⟩ := Rep_clo hu
      obtain ⟨rfl, _⟩ := Rep_lit hv
      exact go (fun op => by unfold eqGuard; split <;> simp) (run_equalIn_func_some w _ _ _ _ _ _ _ _ t2) ⟨rfl, rfl⟩ hk
    · exact hk.elim
  · exact hk.elim
theorem intK_sound (h : HRep w μ F H) (hg : GOK cx w F) {op : BinOp} {t : TypeId} {x y : Operand} {k k' : IntKind} {a b : Int} {K : AV → HH → Prop} (hk : intK op (fun r => K r H) k k' a b) :
    Yields cx w μ F H (do eqGuard op t x y (.int k a) (.int k' b); binOp op t (.int k a) (.int k' b)) K := by
  have hgd : (eqGuard op t x y (.int k a) (.int k' b)).run cx.P w = .ok () w := by unfold eqGuard; split <;> simp
  have go : ∀ {r : Value} {av : AV}, (binOp op t (.int k a) (.int k' b)).run cx.P w = .ok r w → K av H → Rep w μ F av r → Yields cx w μ F H (do eqGuard op t x y (.int k a) (.int k' b); binOp op t (.int k a) (.int k' b)) K := by
    intro r av h1 h2 h3
    refine .same h hg ?_ h2 h3
    rw [Sem.run_bind, hgd, Result.andThen_ok]; exact h1
  unfold intK at hk
  split at hk
  · obtain ⟨h0, hk⟩ := hk
    exact go (by have : ¬ b < 0 := by omega
                 simp [binOp, Op.shift, this]) hk (rInt _ _)
  · obtain ⟨h0, hk⟩ := hk
    exact go (by have : ¬ b < 0 := by omega
                 simp [binOp, Op.shift, this]) hk (rInt _ _)
  · rename_i hs1 hs2
    split at hk
    · exact hk.elim
    rename_i he
    obtain rfl := ikeq_eq he
    split at hk
    · exact go (by simp [binOp, Op.intArith]) hk (rInt _ _)
    · exact go (by simp [binOp, Op.intArith]) hk (rInt _ _)
    · exact go (by simp [binOp, Op.intArith]) hk (rInt _ _)
    · exact go (by simp [binOp, Op.intDiv, hk.1]) hk.2 (rInt _ _)
    · exact go (by simp [binOp, Op.intDiv, hk.1]) hk.2 (rInt _ _)
    · exact go (by simp [binOp, Op.intCmp]) hk (rBool _)
    · exact go (by simp [binOp, Op.intCmp]) hk (rBool _)
    · exact go (by simp [binOp, Op.intCmp]) hk (rBool _)
    · exact go (by simp [binOp, Op.intCmp]) hk (rBool _)
    · exact go (by simp [binOp, Op.intCmp]) hk (rBool _)
    · exact go (by simp [binOp, Op.intCmp]) hk (rBool _)
    · exact go (by simp [binOp, Op.intBits]) hk (rInt _ _)
    · exact go (by simp [binOp, Op.intBits]) hk (rInt _ _)
    · exact go (by simp [binOp, Op.intBits]) hk (rInt _ _)
    · exact go (by simp [binOp, Op.intBits]) hk (rInt _ _)
    · exact hk.elim
theorem binK_sound (ok : CxOK cx) (h : HRep w μ F H) (hg : GOK cx w F) {op : BinOp} {t : TypeId} {d sz bs z} (ht : cx.ty t = some ⟨d, sz, bs, z⟩) {x y : Operand} {a b : AV} {K : AV → HH → Prop} (hk : binK op d (isCst x || isCst y) (fun r => K r H) a b) {u v : Value} (hu : Rep w μ F a u) (hv : Rep w μ F b v) :
    Yields cx w μ F H (do eqGuard op t x y u v; binOp op t u v) K := by
  obtain ⟨i, dd, zz, t1, t2, t3, t4, t5, _⟩ := (ok.ty t _ ht).ok
  unfold binK at hk
  split at hk
  · split at hk
    rotate_left
    · exact hk.elim
    obtain ⟨rfl, _⟩ := Rep_lit hu
    obtain ⟨rfl, _⟩ := Rep_lit hv
    exact intK_sound h hg hk
  · split at hk
    rotate_left
    · exact hk.elim
    rename_i a b
    obtain ⟨rfl, hpa⟩ := Rep_lit hu
    obtain ⟨rfl, hpb⟩ := Rep_lit hv
    have hgd : (eqGuard op t x y (.string a) (.string b)).run cx.P w = .ok () w := by
      unfold eqGuard; split <;> simp
    have hls := ba_eq (a := a) (b := b)
    have go : ∀ {r : Value} {av : AV}, (Op.stringOp op a b).run cx.P w = .ok r w → K av H → Rep w μ F av r → Yields cx w μ F H (do eqGuard op t x y (.string a) (.string b); binOp op t (.string a) (.string b)) K := by
      intro r av h1 h2 h3
      refine .same h hg ?_ h2 h3
      simp only [Sem.run_bind, hgd, Result.andThen_ok]
      cases op <;> exact h1
    split at hk
    · obtain ⟨hR, hk⟩ := hk
      refine go (r := .string (a ++ b)) ?_ hk (.frz (.lit (by show (a ++ b).size ≤ R; rw [ByteArray.size_append]; exact hR)))
      have : ¬ ((a.size + b.size : Nat) : Int) > IntKind.i64.max := by
        simp only [R] at hR
        have : (IntKind.i64.max : Int) = 9223372036854775807 := by decide
        omega
      simp only [Op.stringOp]
      rw [if_neg this]; rfl
    · exact go (by simp [Op.stringOp, hls]) hk (rBool _)
    · exact go (by simp [Op.stringOp, hls]) hk (rBool _)
    · exact go (by simp [Op.stringOp, toList_eq]) hk (rBool _)
    · exact go (by simp only [Op.stringOp, hls]; simp [toList_eq]) hk (rBool _)
    · exact go (by simp only [Op.stringOp, hls]; simp [toList_eq]) hk (rBool _)
    · exact go (by simp [Op.stringOp, toList_eq]) hk (rBool _)
    · exact hk.elim
  · have t5 : dd = .bool := t5
    subst t5
    split at hk
    rotate_left
    · exact hk.elim
    rename_i a b
    obtain ⟨rfl, _⟩ := Rep_lit hu
    obtain ⟨rfl, _⟩ := Rep_lit hv
    have hgd : (eqGuard op t x y (.bool a) (.bool b)).run cx.P w = .ok () w := by
      unfold eqGuard; split <;> simp
    rcases eqlB_sound hk with ⟨rfl, hk⟩ | ⟨rfl, hk⟩
    · refine .same h hg ?_ hk (rBool _)
      rw [Sem.run_bind, hgd, Result.andThen_ok, run_eql_bool w t a b t2]
    · refine .same h hg ?_ hk (rBool _)
      rw [Sem.run_bind, hgd, Result.andThen_ok, run_neq_bool w t a b t2]
  · exact nilK_sound ok h hg ht hk hu hv
end
end Go.Eng
/- Soundness, ninth part: conversions, copy, clear, least and greatest. -/
namespace Go.Eng
section
variable {cx : Cx} {w : World} {μ : Id → Option Loc} {F : Nat → Prop} {H : HH}
theorem mm_sound {mx : Bool} {k : IntKind} {K : AV → Prop} : ∀ {l : List AV} {x : Int}, mmK mx k K x l → ∀ {vs : List Value}, All2 (Rep w μ F) l vs →
    ∃ r : Int, K (.lit (.int k r)) ∧ (vs.foldlM (if mx then Builtin.max2 else Builtin.min2) (Value.int k x)).run cx.P w = .ok (.int k r) w
  | [], x, hk, vs, h => by cases h; exact ⟨x, hk, by cases mx <;> simp⟩
  | a :: l, x, hk, vs, h => by
    cases h with
    | cons hq hl =>
      rename_i v vs
      unfold mmK at hk
      split at hk
      · rename_i heq; cases heq
      · rename_i heq
        cases heq
        obtain ⟨rfl, _⟩ := Rep_lit hq
        split at hk
        · obtain ⟨r, h1, h2⟩ := mm_sound hk hl
          refine ⟨r, h1, ?_⟩
          simp only [List.foldlM_cons, if_true] at h2 ⊢
          simp only [Sem.run_bind, Builtin.max2, Sem.run_pure, Result.andThen_ok]; exact h2
        · obtain ⟨r, h1, h2⟩ := mm_sound hk hl
          refine ⟨r, h1, ?_⟩
          simp only [List.foldlM_cons, Bool.false_eq_true, if_false] at h2 ⊢
          simp only [Sem.run_bind, Builtin.min2, Sem.run_pure, Result.andThen_ok]; exact h2
      · exact hk.elim
theorem minmax_sound (h : HRep w μ F H) (hg : GOK cx w F) {mx : Bool} {args : List AV} {K : AV → HH → Prop} (hk : minmaxK mx (fun r => K r H) args) {vs : List Value} (hv : All2 (Rep w μ F) args vs) {at_ : Array TypeId} {ty : TypeId} :
    Yields cx w μ F H (if mx then Builtin.max_ at_ ty ⟨vs⟩ else Builtin.min_ at_ ty ⟨vs⟩) K := by
  unfold minmaxK at hk
  split at hk
  rotate_left
  · exact hk.elim
  cases hv with
  | cons hq hl =>
    obtain ⟨rfl, _⟩ := Rep_lit hq
    obtain ⟨r, h1, h2⟩ := mm_sound (cx := cx) hk hl
    refine .same h hg (v := .int _ r) ?_ h1 (rInt _ _)
    cases mx
    · simpa [Builtin.min_] using h2
    · simpa [Builtin.max_] using h2
theorem isU8_ok (ok : CxOK cx) {e : TypeId} (h : isU8 (cx.ty e) = true) : cx.P.underlying e = some (.int .u8) ∧ ∃ z, cx.ty e = some ⟨.int .u8, 1, 1, z⟩ := by
  unfold isU8 at h
  split at h
  · rename_i sz bs z he
    simp only [Bool.and_eq_true] at h
    have h1 := Nat.eq_of_beq_eq_true h.1
    have h2 := Nat.eq_of_beq_eq_true h.2
    subst h1; subst h2
    obtain ⟨i, dd, zz, t1, t2, t3, t4, t5, _⟩ := (ok.ty e _ he).ok
    obtain rfl : dd = .int .u8 := t5
    exact ⟨t2, z, he⟩
  · cases h
theorem bytesOf_get {n : Nat} {el : Nat → List AV} {i : Nat} {b : Nat} (hi : i < n) (h : el i = [.lit (.int .u8 b)]) : (bytesOf n el)[i]? = some (UInt8.ofNat b) := by
  simp [bytesOf, hi, h]
theorem bytesOf_len (n : Nat) (el : Nat → List AV) : (bytesOf n el).length = n := by simp [bytesOf]
theorem str_sound (h : HRep w μ F H) (hg : GOK cx w F) {src dst e : TypeId} (hs : cx.P.underlying src = some (.slice e)) (he : cx.P.underlying e = some (.int .u8)) (hd : cx.P.underlying dst = some .string) {n : Nat} {el : Nat → List AV} {v : Value} {news : List Value}
    (hc : Cont w μ F 1 v n ((List.range n).map el) news) (hb : ∀ i, i < n → ∃ b : Nat, b < 256 ∧ el i = [.lit (.int .u8 b)]) (hR : n ≤ R) (hsl : ∃ a k, v = .slice a n k) {K : AV → HH → Prop} (hk : K (.lit (.string ⟨(bytesOf n el).toArray⟩)) H) :
    Yields cx w μ F H (convert src dst v) K := by
  obtain ⟨a, k, rfl⟩ := hsl
  have hlen := bytesOf_len n el
  have hsz : (⟨(bytesOf n el).toArray⟩ : ByteArray).size = n := by show (bytesOf n el).toArray.size = n; simp [hlen]
  refine .same h hg (v := .string ⟨(bytesOf n el).toArray⟩) ?_ hk (.frz (.lit (by show ByteArray.size _ ≤ R; rw [hsz]; exact hR)))
  have hnl := hc.newsLen
  simp only [Nat.mul_one] at hnl
  have hnews : ∀ i (hi : i < n), news[i]? = some (.int .u8 (UInt8.ofNat ((bytesOf n el)[i]'(by omega)).toNat).toNat) := by
    intro i hi
    obtain ⟨b, hb1, hb2⟩ := hb i hi
    have hfl : ((List.range n).map el).flatten[i]? = some (.lit (.int .u8 b)) := by
      have := flatten_get (sz := 1) (es := (List.range n).map el) hc.el i 0 (by simpa using hi) (by omega)
      simp only [Nat.mul_one, Nat.add_zero, List.getElem_map, List.getElem_range, hb2] at this
      simpa using this
    obtain ⟨h1, h2⟩ := List.getElem?_eq_some_iff.1 hfl
    have := hc.rep.get i h1 (by omega)
    rw [h2] at this
    obtain ⟨h3, _⟩ := Rep_lit this
    rw [List.getElem?_eq_getElem (by omega), h3]
    have hg := bytesOf_get (el := el) hi hb2
    rw [List.getElem?_eq_getElem (by omega)] at hg
    rw [Option.some.inj hg]
    congr 2
    simp
    omega
  cases a with
  | none =>
    have hf := hc.first cx.P w n rfl (Nat.le_refl _)
    simp only [Builtin.firstCells, Sem.run_pure, Nat.mul_one] at hf
    have h0 : n = 0 := by
      have := congrArg (fun r => match r with | Result.ok (a : Array Value) _ => a.size | _ => 0) hf
      simp at this
      omega
    subst h0
    rw [run_convert_bytes_string w src dst e none 0 k hs he hd]
    simp [Conv.bytesToString, bytesOf]; rfl
  | some a =>
    have hf := hc.first cx.P w n rfl (Nat.le_refl _)
    simp only [Builtin.firstCells, Nat.mul_one] at hf
    rw [List.take_of_length_le (by omega)] at hf
    rw [run_convert_bytes_string w src dst e (some a) n k hs he hd]
    have hmap : news = ((bytesOf n el).map fun b => (b.toNat : Int)).map (Value.int .u8) := by
      apply List.ext_getElem?
      intro i
      by_cases hi : i < n
      · rw [hnews i hi]
        simp [List.getElem?_eq_getElem (show i < (bytesOf n el).length by omega)]
      · rw [List.getElem?_eq_none (by omega), List.getElem?_eq_none (by simp [hlen]; omega)]
    rw [hmap] at hf
    have := run_bytesToString (P := cx.P) w a n k _ hf
    rw [this, foldl_push_byteCells]
    have he0 : ByteArray.empty.data = #[] := rfl
    rw [he0]; simp
end
end Go.Eng
/- Soundness, tenth part: conversions, copy, clear. -/
namespace Go.Eng
section
variable {cx : Cx} {w : World} {μ : Id → Option Loc} {F : Nat → Prop} {H : HH}
theorem convK_sound (ok : CxOK cx) (h : HRep w μ F H) (hg : GOK cx w F) {id : Id} {src dst : TypeId} {x : AV} {K : AV → HH → Prop} (hk : convK cx id src dst H K x) {v : Value} (hv : Rep w μ F x v) : Yields cx w μ F H (convert src dst v) K := by
  unfold convK at hk
  split at hk
  rotate_left
  · exact hk.elim
  rename_i s n1 b1 z1 d n2 b2 z2 hs hd
  obtain ⟨i1, d1, y1, s1, s2, s3, s4, s5, -⟩ := (ok.ty src _ hs).ok
  obtain ⟨i2, d2, y2, t1, t2, t3, t4, t5, -⟩ := (ok.ty dst _ hd).ok
  split at hk
  · rename_i k
    obtain rfl : d2 = .int k := t5
    split at hk
    rotate_left
    · exact hk.elim
    obtain ⟨rfl, _⟩ := Rep_lit hv
    refine .same h hg ?_ hk (rInt _ _)
    simp [convert, run_underlying s2, run_underlying t2, Conv.intToInt]
  · obtain rfl : d2 = .string := t5
    split at hk
    · obtain rfl : d1 = .string := s5
      split at hk
      rotate_left
      · exact hk.elim
      obtain ⟨rfl, hp⟩ := Rep_lit hv
      refine .same h hg ?_ hk hv
      simp [convert, run_underlying s2, run_underlying t2]
    · rename_i e
      obtain rfl : d1 = .slice e := s5
      split at hk
      rotate_left
      · exact hk.elim
      rename_i hu
      obtain ⟨hu1, _⟩ := isU8_ok ok hu
      split at hk
      · rename_i c n el
        obtain ⟨hb, hk⟩ := hk
        have hf := Rep_fsl hv
        obtain ⟨news, hc⟩ := fsl_cont (μ := μ) hf
        exact str_sound h hg s2 hu1 t2 hc hb (by cases hf with | fsE _ => exact Nat.zero_le _ | fs _ _ _ _ _ hR => omega) (by cases hf <;> exact ⟨_, _, rfl⟩) hk
      · rename_i r o n c
        split at hk
        rotate_left
        · exact hk.elim
        rename_i bs es hr
        obtain ⟨⟨hle, hR, hb⟩, hk⟩ := hk
        obtain ⟨news, hc⟩ := h.cont hr hv hle
        have he : (es.drop o).take n = (List.range n).map fun i => es.getD (o + i) [] := by
          apply List.ext_getElem?
          intro i
          by_cases hi : i < n
          · rw [List.getElem?_take, if_pos hi, List.getElem?_drop, List.getElem?_map, List.getElem?_range hi]
            rw [List.getElem?_eq_getElem (by omega)]
            simp [List.getD, show o + i < es.length by omega]
          · rw [List.getElem?_eq_none (by simp; omega), List.getElem?_eq_none (by simp; omega)]
        rw [he] at hc
        exact str_sound h hg s2 hu1 t2 hc hb hR (by
          obtain ⟨l, _, hh⟩ := Rep_row hv
          rcases hh with ⟨_, _, rfl, _, a, rfl⟩ | ⟨_, _, _, _, _, _, _, _, _, rfl⟩ <;> exact ⟨_, _, rfl⟩) hk
      · exact hk.elim
    · exact hk.elim
  · rename_i e
    obtain rfl : d2 = .slice e := t5
    split at hk
    rotate_left
    · exact hk.elim
    obtain rfl : d1 = .string := s5
    split at hk
    rotate_left
    · exact hk.elim
    rename_i hu
    obtain ⟨hu1, _⟩ := isU8_ok ok hu
    split at hk
    rotate_left
    · exact hk.elim
    rename_i s
    obtain ⟨rfl, hp⟩ := Rep_lit hv
    obtain ⟨hid, hk⟩ := fresh_iff hk
    have hrun := run_bytes_of_string (P := cx.P) w src dst e s s2 t2 hu1
    have hge : s.size ≤ grownCap w s.size 0 e := by simp [grownCap, Question.cut]
    have hcs : (bytesRow s (grownCap w s.size 0 e)).size = grownCap w s.size 0 e := by
      simp only [bytesRow, Array.size_append, Array.size_map, Array.size_replicate]
      show s.size + _ = _; omega
    have hc := bytes_cont (w := w) (μ := μ) (F := F) s
    obtain ⟨k1, k2, k3⟩ := h.layNew (cx := cx) hg hid (sz := 1) (bs := 1) (es := s.data.toList.map fun b => [AV.lit (.int .u8 b.toNat)]) (c := bytesRow s (grownCap w s.size 0 e)) (e := e) (fz := ((bytesRow s (grownCap w s.size 0 e)).size, (bytesRow s (grownCap w s.size 0 e)).size + 1)) (cap := grownCap w s.size 0 e) (vs := byteCells s) (w1 := w.drew) rfl rfl rfl rfl rfl
      (by rw [hc.len]; exact hge) (by rw [hc.len, Nat.mul_one]; exact hp) (by rw [hcs, Nat.mul_one]; exact Nat.le_refl _) (fun o h1 h2 _ => by omega) hc.el hc.rep hc.one (fun q v hq => by
        have hq' : q < (byteCells s).length := (List.getElem?_eq_some_iff.1 hq).1
        rw [byteCells_length] at hq'
        have hq2 : q < s.data.size := hq'
        simp only [bytesRow]
        rw [Array.getElem?_append_left (by simpa using hq2)]
        rw [← hq]
        simp [byteCells])
    exact ⟨_, _, _, _, _, F, hrun, hk, .row (mput_same _ _ _) rfl rfl (.inr (by simp)) hge (by simp) (by simp), k1, k2, k3⟩
  · exact hk.elim
/-- Elements written over a part of a live row. -/
theorem HRep.over (h : HRep w μ F H) (hg : GOK cx w F) {r : Id} {sz bs : Nat} {es xs : List (List AV)} {o n k : Nat} {c : Option Nat} {a : Option Addr} {news : List Value} (hr : H r = some (.cells sz bs es)) (hv : Rep w μ F (.row r o n c) (.slice a n k)) (hle : o + n ≤ es.length)
    (hxl : xs.length ≤ n) (hel : ∀ e ∈ xs, e.length = sz) (hrep : All2 (Rep w μ F) xs.flatten news) (hone : ∀ u ∈ news, u.oneCell' = true) :
    ∃ w', (∀ P, (match a with | some a => storeCells a news | none => pure () : Sem Unit).run P w = .ok () w') ∧ HRep w' μ F (H.put r (.cells sz bs (Eng.over es o xs))) ∧ GOK cx w' F ∧ Fr w μ F H w' μ F (H.put r (.cells sz bs (Eng.over es o xs))) := by
  obtain ⟨l, hl, hh⟩ := Rep_row hv
  obtain ⟨l', hl', hrow⟩ := h.rows r _ hr
  obtain rfl := Option.some.inj (hl'.symm.trans hl)
  have hrow' := hrow
  obtain ⟨a1, a2, a3, a4, a5⟩ := hrow
  have nothing : xs = [] → (∀ P, (match a with | some a => storeCells a news | none => pure () : Sem Unit).run P w = .ok () w) ∧ HRep w μ F (H.put r (.cells sz bs (Eng.over es o xs))) ∧ GOK cx w F ∧ Fr w μ F H w μ F (H.put r (.cells sz bs (Eng.over es o xs))) := by
    rintro rfl
    have hn : news = [] := by cases hrep; rfl
    subst hn
    have he : Eng.over es o [] = es := by simp [Eng.over]
    rw [he]
    exact ⟨fun P => by cases a <;> rfl, h.write (w' := w) hr rfl hl rfl (fun _ _ => rfl) hrow', hg, Fr.write (w' := w) hr rfl hl rfl rfl rfl rfl (fun _ _ => rfl)⟩
  by_cases hx : xs = []
  · exact ⟨w, nothing hx⟩
  have hx0 : 0 < xs.length := List.length_pos_iff.2 hx
  rcases hh with ⟨_, _, rfl, _⟩ | ⟨b, ad, k', hb, hab, ha, hnk, _, _, he⟩
  · omega
  · cases he
    obtain rfl := ha.resolve_left (by omega)
    rw [hb] at a5
    obtain ⟨cc, e', lo, hi', us, g1, g2, g3, gf⟩ := a5.flat
    have hfl := flatten_length gf.len
    have hxf := flatten_length hel
    have e1 : o * sz + xs.length * sz ≤ es.length * sz := by rw [← Nat.add_mul]; exact Nat.mul_le_mul_right _ (by omega)
    obtain ⟨k1, k2, k3, k4⟩ := h.writeFlat hg (es' := Eng.over es o xs) (o := o * sz) hr hl hb hrep hone (by rw [hfl, hxf]; exact e1)
      (by simp only [Eng.over, List.flatten_append, flatten_take gf.len, flatten_drop gf.len, hxf, Nat.add_mul])
      (by simp only [Eng.over, List.length_append, List.length_take, List.length_drop]; omega)
      (fun e he => by
        simp only [Eng.over, List.mem_append] at he
        rcases he with (he | he) | he
        · exact gf.len e (List.mem_of_mem_take he)
        · exact hel e he
        · exact gf.len e (List.mem_of_mem_drop he))
    exact ⟨_, fun P => by rw [a1]; exact k1 P, k2, k3, k4⟩
theorem Rep_row_slice {r o n c v} (h : Rep w μ F (.row r o n c) v) : ∃ a k, v = .slice a n k := by
  obtain ⟨l, _, hh⟩ := Rep_row h
  rcases hh with ⟨_, _, rfl, _, a, rfl⟩ | ⟨_, _, _, _, _, _, _, _, _, rfl⟩ <;> exact ⟨_, _, rfl⟩
theorem copyK_sound (ok : CxOK cx) (h : HRep w μ F H) (hg : GOK cx w F) {t : TypeId} {rest : List TypeId} {ty : TypeId} {d x : AV} {K : AV → HH → Prop} (hk : copyK cx t H K d x) {u v : Value} (hu : Rep w μ F d u) (hv : Rep w μ F x v) :
    Yields cx w μ F H (Builtin.copy_ ⟨t :: rest⟩ ty #[u, v]) K := by
  unfold copyK at hk
  split at hk
  rotate_left
  · exact hk.elim
  rename_i e n0 b0 z0 ht
  split at hk
  rotate_left
  · exact hk.elim
  rename_i dd sz bs0 z he
  split at hk
  rotate_left
  · exact hk.elim
  rename_i r o n c
  split at hk
  rotate_left
  · exact hk.elim
  rename_i sz' bs es hr
  split at hk
  rotate_left
  · exact hk.elim
  rename_i hb
  obtain rfl := Nat.eq_of_beq_eq_true hb
  obtain ⟨hle, hk⟩ := hk
  obtain ⟨m, xs, news, hk, hc⟩ := contentK_sound h hk hv
  obtain ⟨a, k, rfl⟩ := Rep_row_slice hu
  have hnl := hc.newsLen
  have htk : All2 (Rep w μ F) (xs.take n).flatten (news.take (n * sz)) := by rw [flatten_take hc.el]; exact hc.rep.take _
  obtain ⟨w', k1, k2, k3, k4⟩ := h.over hg hr hu hle (xs := xs.take n) (by simp; omega) (fun e he => hc.el e (List.mem_of_mem_take he)) htk (fun u hu => hc.one u (List.mem_of_mem_take hu))
  have hf := hc.first cx.P w (Nat.min m n) rfl (Nat.min_le_left _ _)
  have hmin : news.take (Nat.min m n * sz) = news.take (n * sz) := by
    show news.take (min m n * sz) = _
    by_cases hmn : m ≤ n
    · rw [Nat.min_eq_left hmn, List.take_of_length_le (by omega), List.take_of_length_le (by have := Nat.mul_le_mul_right sz hmn; omega)]
    · rw [Nat.min_eq_right (by omega)]
  rw [hmin] at hf
  refine ⟨goInt (Nat.min m n), w', _, _, μ, F, ?_, hk, .frz (.lit (plainInt _ _)), k2, k3, k4⟩
  have k1' := k1 cx.P
  cases a with
  | none =>
    simp only [Sem.run_pure] at k1'
    simp [Builtin.copy_, run_underlying (slice_ok ok ht), elem_ok ok he, hc.lenOf, hf]
    simpa using k1'
  | some a =>
    simp only at k1'
    simp [Builtin.copy_, run_underlying (slice_ok ok ht), elem_ok ok he, hc.lenOf, hf, k1']
end
end Go.Eng

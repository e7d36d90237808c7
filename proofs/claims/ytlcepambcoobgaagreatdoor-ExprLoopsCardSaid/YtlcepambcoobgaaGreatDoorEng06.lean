/- Eng06: an engine for the program's code, and walks of its functions (S T U V X). -/
import Derived.Test.YtlcepambcoobgaaGreatDoorEng05
/- Soundness, fourteenth part: regions that keep the text's order, code, functions. -/
namespace Go.Eng
section
variable {cx : Cx} {nt : Nat} {E : Entry}
theorem Fr.rep {w μ F H w' μ' F' H'} (hh : HRep w μ F H) (f : Fr w μ F H w' μ' F' H') {av v} (h : Rep w μ F av v) : Rep w' μ' F' av v :=
  h.mono (fun b hb => f.keep b (hh.lt b hb) fun ⟨r, row, l, h1, h2, h3, h4⟩ => hh.disj r row l b h1 h2 h3 h4 hb) f.fr f.mu
theorem put_getD (a : Act) (d : Nat) (v : Value) (hd : d < a.tmps.size) (t : Nat) : (a.put (some d) v).tmps.getD t undef = if t = d then v else a.tmps.getD t undef := by
  simp only [Act.put, Array.getD_eq_getD_getElem?]
  by_cases h : t = d
  · subst h; simp [hd]
  · rw [if_neg h, Array.getElem?_setIfInBounds_ne (fun e => h e.symm)]
theorem SimX.put {T : TT} {H H' : HH} {a : Act} {w w' : World} {μ μ' : Id → Option Loc} {F F' : Nat → Prop} (s : SimX cx nt E T H a w μ F) {d : Nat} (hd : d < nt) {av : AV} {v : Value} (hv : Rep w' μ' F' av v) (h : HRep w' μ' F' H') (g : GOK cx w' F') (f : Fr w μ F H w' μ' F' H') :
    SimX cx nt E (T.put d av) H' (a.put (some d) v) w' μ' F' := by
  refine ⟨h, g, fun t u hu => ?_, fun t u hu => ?_, by simp [Act.put, s.n], s.d.step f, s.f.step f⟩
  · rw [put_getD a d v (by rw [s.n]; exact hd)]
    by_cases e : t = d
    · subst e; rw [TT.put_same] at hu; cases hu; rw [if_pos rfl]; exact hv
    · rw [TT.put_ne _ _ e] at hu; rw [if_neg e]; exact f.rep s.h (s.t t u hu)
  · by_cases e : t = d
    · subst e; exact hd
    · rw [TT.put_ne _ _ e] at hu; exact s.b t u hu
theorem SimX.keep {T : TT} {H H' : HH} {a : Act} {w w' : World} {μ μ' : Id → Option Loc} {F F' : Nat → Prop} (s : SimX cx nt E T H a w μ F) (h : HRep w' μ' F' H') (g : GOK cx w' F') (f : Fr w μ F H w' μ' F' H') :
    SimX cx nt E T H' a w' μ' F' := ⟨h, g, fun t u hu => f.rep s.h (s.t t u hu), s.b, s.n, s.d.step f, s.f.step f⟩
theorem SimX.del {T : TT} {H : HH} {a : Act} {w : World} {μ : Id → Option Loc} {F : Nat → Prop} (s : SimX cx nt E T H a w μ F) {d : Nat} (hd : d < nt) (v : Value) : SimX cx nt E (T.del d) H (a.put (some d) v) w μ F := by
  refine ⟨s.h, s.g, fun t u hu => ?_, fun t u hu => ?_, by simp [Act.put, s.n], s.d, s.f⟩
  · by_cases e : t = d
    · subst e; rw [TT.del_same] at hu; cases hu
    · rw [TT.del_ne _ e] at hu
      rw [put_getD a d v (by rw [s.n]; exact hd), if_neg e]; exact s.t t u hu
  · by_cases e : t = d
    · subst e; rw [TT.del_same] at hu; cases hu
    · rw [TT.del_ne _ e] at hu; exact s.b t u hu
theorem yielded_of {ops : Array Oper} {T : TT} {H : HH} {a : Act} {w : World} {μ : Id → Option Loc} {F : Nat → Prop} (s : SimX cx nt E T H a w μ F) {j e : Nat} {o : Oper} (hj : ops[j]? = some o) (hd : o.dst = some e) {b : Bool} (hT : T e = some (.lit (.bool b))) :
    yielded ops a.tmps j = some b := by
  have h1 := (Rep_lit (s.t e _ hT)).1
  have h2 : e < a.tmps.size := by rw [s.n]; exact s.b e _ hT
  have h3 : a.tmps[e]? = some (.bool b) := by
    rw [Array.getD_eq_getD_getElem?, Array.getElem?_eq_getElem h2] at h1
    rw [Array.getElem?_eq_getElem h2]; simpa using h1
  simp [yielded, hj, hd, h3]
theorem SimX.skip {T : TT} {H : HH} {a : Act} {w : World} {μ : Id → Option Loc} {F : Nat → Prop} (s : SimX cx nt E T H a w μ F) {d : Nat} (hd : d < nt) : SimX cx nt E (T.put d skipV) H (a.put (some d) undef) w μ F :=
  s.put hd (.frz (.lit (show Plain (.tuple #[]) from rfl))) s.h s.g (.refl ..)
theorem wanted_of {ops : Array Oper} {T : TT} {H : HH} {a : Act} {w : World} {μ : Id → Option Loc} {F : Nat → Prop} (s : SimX cx nt E T H a w μ F) {j e : Nat} {o : Oper} (hj : ops[j]? = some o) (hd : o.dst = some e) {b want : Bool} (hT : gOf want (T e) = some b) {p : Oper} (hg : p.guard = some (j, want)) :
    Region.wanted p (yielded ops a.tmps) = (b == want) := by
  simp only [Region.wanted, hg]
  unfold gOf at hT
  split at hT
  · rename_i v hv
    split at hT
    · rename_i b'
      cases hT
      rw [yielded_of s hj hd hv]
      cases b <;> cases want <;> rfl
    · rename_i vs
      cases hT
      have h1 := (Rep_lit (s.t e _ hv)).1
      have h2 : e < a.tmps.size := by rw [s.n]; exact s.b e _ hv
      have h3 : a.tmps[e]? = some (.tuple vs) := by
        rw [Array.getD_eq_getD_getElem?, Array.getElem?_eq_getElem h2] at h1
        rw [Array.getElem?_eq_getElem h2]; simpa using h1
      have : yielded ops a.tmps j = none := by simp [yielded, hj, hd, h3]
      rw [this]
      cases want <;> rfl
    · cases hT
  · cases hT
theorem W_cons (q : Nat → Bool) (g : Nat) (ops : Array Oper) (i : Nat) (o : Oper) (l : List Oper) (T : TT) (H : HH) (K : TT → HH → Prop) (KP : AV → TT → HH → Prop) :
    W cx nt g q ops i (o :: l) T H K KP = W1 cx nt g (q i) ops o T H (fun T' H' => W cx nt g q ops (i + 1) l T' H' K KP) KP := by
  obtain ⟨dst, op, t, p, af, guard⟩ := o
  rfl
theorem W1_sound (ok : CxOK cx) {g : Nat} {quiet : Bool} {ops : Array Oper} {o : Oper} {T : TT} {H : HH} {K : TT → HH → Prop} {KP : AV → TT → HH → Prop} (hk : W1 cx nt g quiet ops o T H K KP) {a : Act} {w : World} {μ : Id → Option Loc} {F : Nat → Prop} (s : SimX cx nt E T H a w μ F)
    {next : Act → World → Prop} {Q : Exit → Act → World → Prop} (hn : ∀ T' H' a' w' μ' F', K T' H' → SimX cx nt E T' H' a' w' μ' F' → next a' w')
    (hp : ∀ v T' H' w' μ' F' x, KP v T' H' → SimX cx nt E T' H' a w' μ' F' → Rep w' μ' F' v x → Q (.panic [{ v := x, recovered := false }]) a w') :
    if Region.wanted o (yielded ops a.tmps) then o.wp cx.P a w next Q else next (a.put o.dst undef) w := by
  obtain ⟨dst, op, ty, pos, af, guard⟩ := o
  have some_ : ∀ {d : Nat}, Nat.blt d nt = true → opK cx quiet (g, d, 0) op T H (fun v H' => K (T.put d v) H') (fun v H' => KP v T H') → dst = some d → Oper.wp cx.P ⟨dst, op, ty, pos, af, guard⟩ a w next Q := by
    intro d hd hk' he
    subst he
    have hd := Nat.le_of_ble_eq_true hd
    have := opK_sound (o := ⟨some d, op, ty, pos, af, guard⟩) ok s.h s.g s.t hk'
    exact this.h next Q (fun v w' av H' μ' F' k1 k2 k3 k4 k5 => hn _ _ _ _ _ _ k1 (s.put hd k2 k3 k4 k5)) (fun v w' av H' μ' F' k1 k2 k3 k4 k5 => hp _ _ _ _ _ _ _ k1 (s.keep k3 k4 k5) k2)
  have none_ : opK cx quiet (g, 1000000, 0) op T H (fun _ H' => K T H') (fun v H' => KP v T H') → dst = none → Oper.wp cx.P ⟨dst, op, ty, pos, af, guard⟩ a w next Q := by
    intro hk' he
    subst he
    have := opK_sound (o := ⟨none, op, ty, pos, af, guard⟩) ok s.h s.g s.t hk'
    exact this.h next Q (fun v w' av H' μ' F' k1 k2 k3 k4 k5 => hn _ _ _ _ _ _ k1 (s.keep k3 k4 k5)) (fun v w' av H' μ' F' k1 k2 k3 k4 k5 => hp _ _ _ _ _ _ _ k1 (s.keep k3 k4 k5) k2)
  unfold W1 at hk
  simp only at hk
  split at hk
  · rw [if_pos (by simp [Region.wanted])]
    split at hk
    · split at hk
      · rename_i hb
        exact some_ hb hk rfl
      · exact hk.elim
    · exact none_ hk rfl
  · rename_i j want
    split at hk
    rotate_left
    · exact hk.elim
    rename_i e _ _ _ _ _ hj
    split at hk
    rotate_left
    · exact hk.elim
    rename_i b hb
    have hw : Region.wanted ⟨dst, op, ty, pos, af, some (j, want)⟩ (yielded ops a.tmps) = (b == want) := wanted_of s hj rfl hb rfl
    rw [hw]
    split at hk
    · split at hk
      rotate_left
      · exact hk.elim
      rename_i hd
      rw [BrW_eq] at hk; unfold Br at hk
      split at hk
      · rename_i hbw
        rw [hbw, if_pos rfl]; exact some_ hd hk rfl
      · rename_i hbw
        rw [hbw]
        simp only [Bool.false_eq_true, if_false]
        exact hn _ _ _ _ _ _ hk (s.skip (Nat.le_of_ble_eq_true hd))
    · rw [BrW_eq] at hk; unfold Br at hk
      split at hk
      · rename_i hbw
        rw [hbw, if_pos rfl]; exact none_ hk rfl
      · rename_i hbw
        rw [hbw]
        simp only [Bool.false_eq_true, if_false]
        exact hn _ _ _ _ _ _ hk s
theorem W_sound (ok : CxOK cx) {g : Nat} {q : Nat → Bool} {ops : Array Oper} {K : TT → HH → Prop} {KP : AV → TT → HH → Prop} {Q : Exit → Act → World → Prop}
    (hn : ∀ T' H' a' w' μ' F', K T' H' → SimX cx nt E T' H' a' w' μ' F' → Q .normal a' w')
    (hp : ∀ v T' H' a' w' μ' F' x, KP v T' H' → SimX cx nt E T' H' a' w' μ' F' → Rep w' μ' F' v x → Q (.panic [{ v := x, recovered := false }]) a' w') :
    ∀ (l : List Oper) (i : Nat) (T : TT) (H : HH), W cx nt g q ops i l T H K KP → ∀ a w μ F, SimX cx nt E T H a w μ F → wpList cx.P ops Q l a w
  | [], i, T, H, hk, a, w, μ, F, s => hn _ _ _ _ _ _ hk s
  | o :: l, i, T, H, hk, a, w, μ, F, s => by
    rw [W_cons] at hk
    refine wpList_step fun Kk hKk => ?_
    exact W1_sound ok hk s (fun T' H' a' w' μ' F' k s' => hKk _ _ (W_sound ok hn hp l (i + 1) T' H' k a' w' μ' F' s')) (fun v T' H' w' μ' F' x k s' r => hp _ _ _ _ _ _ _ _ k s' r)
end
end Go.Eng
/- Soundness: operations whose order is not bound; each of the light ones by what it looks at. -/
namespace Go.Eng
/-- The continuation of f is taken at one value; whatever of the family F is asked for that value goes through. -/
def Det {α ι : Type} (pr : α → Prop) (f : (α → Prop) → Prop) (F : ι → (α → Prop) → Prop) : Prop := ∀ K, f K → ∃ a, pr a ∧ K a ∧ ∀ i K2, K2 a → F i K2
abbrev Any {α : Type} : α → Prop := fun _ => True
section
variable {α β ι : Type}
theorem Det.pure (a : α) : Det (ι := ι) Any (fun K => K a) (fun _ K => K a) := fun _ h => ⟨a, trivial, h, fun _ _ h => h⟩
theorem Det.no {pr : α → Prop} {f : (α → Prop) → Prop} {F : ι → (α → Prop) → Prop} (h : ∀ K, ¬ f K) : Det pr f F := fun K hk => (h K hk).elim
theorem Det.bind {pr : α → Prop} {f : (α → Prop) → Prop} {F : ι → (α → Prop) → Prop} (hf : Det pr f F) {pr2 : β → Prop} {g : α → (β → Prop) → Prop} {G : ι → α → (β → Prop) → Prop} (hg : ∀ a, pr a → Det pr2 (g a) (fun i => G i a)) :
    Det pr2 (fun K => f fun a => g a K) (fun i K => F i fun a => G i a K) := by
  intro K h
  obtain ⟨a, p, h, hF⟩ := hf _ h
  obtain ⟨b, p2, h, hG⟩ := hg a p K h
  exact ⟨b, p2, h, fun i K2 h2 => hF i _ (hG i K2 h2)⟩
theorem Det.map {pr : α → Prop} {f : (α → Prop) → Prop} {F : ι → (α → Prop) → Prop} (hf : Det pr f F) (g : α → β) : Det Any (fun K : β → Prop => f fun a => K (g a)) (fun i K => F i fun a => K (g a)) := by
  intro K h
  obtain ⟨a, _, h, hF⟩ := hf _ h
  exact ⟨g a, trivial, h, fun i K2 h2 => hF i _ h2⟩
theorem Det.and {P : Prop} {pr : α → Prop} {f : (α → Prop) → Prop} {F : ι → (α → Prop) → Prop} (hf : P → Det pr f F) : Det pr (fun K => P ∧ f K) (fun i K => P ∧ F i K) := by
  intro K ⟨p, h⟩
  obtain ⟨a, h0, h1, h2⟩ := hf p K h
  exact ⟨a, h0, h1, fun i K2 h => ⟨p, h2 i K2 h⟩⟩
theorem Det.any {pr : α → Prop} {f : (α → Prop) → Prop} {F : ι → (α → Prop) → Prop} (hf : Det pr f F) : Det Any f F := by
  intro K h
  obtain ⟨a, _, h1, h2⟩ := hf K h
  exact ⟨a, trivial, h1, h2⟩
theorem det_nthK (es : List (List AV)) (i : Nat) : Det (ι := ι) Any (nthK es i) (fun _ => nthK es i) := by
  unfold nthK; split
  · exact .pure _
  · exact .no fun _ h => h
theorem det_dropK : ∀ (n : Nat) (l : List AV), Det (ι := ι) Any (fun K => dropK n l K) (fun _ K => dropK n l K)
  | 0, l => by simp only [dropK]; exact .pure l
  | n + 1, _ :: l => by simp only [dropK]; exact det_dropK n l
  | n + 1, [] => by simp only [dropK]; exact .no fun _ h => h
theorem det_takeK : ∀ (n : Nat) (l : List AV), Det (ι := ι) Any (fun K => takeK n l K) (fun _ K => takeK n l K)
  | 0, l => by simp only [takeK]; exact .pure []
  | n + 1, c :: l => by simp only [takeK]; exact (det_takeK n l).map (c :: ·)
  | n + 1, [] => by simp only [takeK]; exact .no fun _ h => h
theorem det_asV (n : Nat) (b : Bool) (cs : List AV) : Det (ι := ι) Any (fun K => asV n b K cs) (fun _ K => asV n b K cs) := by
  unfold asV; split
  · exact (det_takeK n cs).map AV.agg
  · split
    · exact .pure _
    · exact .no fun _ h => h
theorem det_elemK (cx : Cx) (t : TypeId) (sz : Nat) (e : List AV) (j : Nat) : Det (ι := ι) Any (fun K => elemK cx t sz e j K) (fun _ K => elemK cx t sz e j K) := by
  unfold elemK; split
  · exact .no fun _ h => h
  · split
    · exact (det_dropK j e).bind fun a _ => det_asV _ _ a
    · split
      · split
        · exact .pure _
        · exact (det_takeK _ _).map AV.agg
      · exact (det_dropK _ e).bind fun a _ => (det_takeK _ a).map AV.agg
theorem det_updHead : ∀ (l e : List AV), Det (ι := ι) Any (fun K => updHead l e K) (fun _ K => updHead l e K)
  | [], e => by simp only [updHead]; exact .pure e
  | v :: l, _ :: e => by simp only [updHead]; exact (det_updHead l e).map (v :: ·)
  | _ :: _, [] => by simp only [updHead]; exact .no fun _ h => h
theorem det_updN : ∀ (n : Nat) (l e : List AV), Det (ι := ι) Any (fun K => updN n l e K) (fun _ K => updN n l e K)
  | 0, l, e => by simp only [updN]; exact det_updHead l e
  | n + 1, l, c :: e => by simp only [updN]; exact (det_updN n l e).map (c :: ·)
  | n + 1, _, [] => by simp only [updN]; exact .no fun _ h => h
theorem det_okCells {pr : α → Prop} {f : (α → Prop) → Prop} {F : ι → (α → Prop) → Prop} (hf : Det pr f F) : ∀ (l : List AV), Det pr (fun K => okCells l (f K)) (fun i K => okCells l (F i K))
  | [] => by simp only [okCells]; exact hf
  | v :: l => by
    simp only [okCells]
    split
    · exact det_okCells hf l
    · exact .no fun _ h => h
theorem det_idxK (i : Int) (n : Nat) : Det (ι := ι) Any (idxK i n) (fun _ => idxK i n) := by
  unfold idxK; split
  · exact .and fun _ => .pure _
  · exact .no fun _ h => h
theorem det_within (i : Int) (n : Nat) : Det (ι := ι) Any (within i n) (fun _ => within i n) := by
  unfold within; split
  · exact .and fun _ => .pure _
  · exact .no fun _ h => h
theorem det_asInt (x : AV) : Det (ι := ι) Any (asInt x) (fun _ => asInt x) := by
  unfold asInt; split
  · exact .pure _
  · exact .no fun _ h => h
theorem det_bMax (m : Option AV) (n : Nat) : Det (ι := ι) Any (bMax m n) (fun _ => bMax m n) := by
  unfold bMax; split
  · exact (det_asInt _).bind fun a _ => (det_within a n).map some
  · exact .pure _
theorem det_bHi (m : Option AV) (n c : Nat) : Det (ι := ι) Any (bHi m n c) (fun _ => bHi m n c) := by
  unfold bHi; split
  · exact (det_asInt _).bind fun a _ => det_within a c
  · exact .pure _
theorem det_bLo (m : Option AV) (n : Nat) : Det (ι := ι) Any (bLo m n) (fun _ => bLo m n) := by
  unfold bLo; split
  · exact (det_asInt _).bind fun a _ => det_within a n
  · exact .pure _
theorem det_bndK {pr : β → Prop} (lo hi mx : Option AV) (n cap : Nat) {g : Nat → Nat → Option Nat → (β → Prop) → Prop} {G : ι → Nat → Nat → Option Nat → (β → Prop) → Prop} (hg : ∀ a b c, Det pr (g a b c) (fun i => G i a b c)) :
    Det pr (fun K => bndK lo hi mx n cap fun a b c => g a b c K) (fun i K => bndK lo hi mx n cap fun a b c => G i a b c K) := by
  unfold bndK; split
  · exact .no fun _ h => h
  · exact (det_bMax _ _).bind fun _ _ => (det_bHi _ _ _).bind fun _ _ => (det_bLo _ _).bind fun _ _ => hg _ _ _
theorem det_rowFrom (r : Id) (o l h : Nat) (c : Option Nat) : Det (ι := ι) Any (fun K => rowFrom K r o l h c) (fun _ K => rowFrom K r o l h c) := by
  unfold rowFrom; split
  · exact .pure _
  · split <;> exact .pure _
theorem det_sliceF (sz : Nat) (lo hi mx : Option AV) (x : AV) : Det (ι := ι) Any (fun K => sliceF sz lo hi mx K x) (fun _ K => sliceF sz lo hi mx K x) := by
  unfold sliceF; split
  · split
    · exact det_bndK _ _ _ _ _ fun a b c => by split <;> exact .pure _
    · exact .no fun _ h => h
  · exact .no fun _ h => h
theorem det_fieldOff (d : TD) (f : Nat) : Det (ι := ι) Any (fieldOff d f) (fun _ => fieldOff d f) := by
  unfold fieldOff; split
  · split
    · exact .pure _
    · exact .no fun _ h => h
  · exact .no fun _ h => h
theorem det_fieldAddrK (off : Nat) (x : AV) : Det (ι := ι) Any (fun K => fieldAddrK off K x) (fun _ K => fieldAddrK off K x) := by
  unfold fieldAddrK; split
  · split <;> exact .pure _
  · split <;> exact .pure _
  · exact .no fun _ h => h
theorem det_lenK (d : TD) (x : AV) : Det (ι := ι) Any (fun K => lenK d K x) (fun _ K => lenK d K x) := by
  unfold lenK; split
  · split
    · exact .pure _
    · exact .no fun _ h => h
  · split
    · exact .pure _
    · exact .pure _
    · split
      · exact .pure _
      · exact .no fun _ h => h
    · exact .no fun _ h => h
  · exact .no fun _ h => h
theorem det_eqlB (op : BinOp) (b : Bool) : Det (ι := ι) Any (eqlB op b) (fun _ => eqlB op b) := by
  unfold eqlB; split
  · exact .pure _
  · exact .pure _
  · exact .no fun _ h => h
theorem det_nilK (d : TD) (c : Bool) (op : BinOp) (x y : AV) : Det (ι := ι) Any (fun K => nilK d c op K x y) (fun _ K => nilK d c op K x y) := by
  unfold nilK; split
  · split <;> first | exact det_eqlB _ _ | exact .no fun _ h => h
  · split
    · split
      · exact det_eqlB _ _
      · exact .no fun _ h => h
    · exact det_eqlB _ _
    · exact .no fun _ h => h
  · split <;> first | exact det_eqlB _ _ | exact .no fun _ h => h
  · exact .no fun _ h => h
theorem det_intK (op : BinOp) (k k' : IntKind) (a b : Int) : Det (ι := ι) Any (fun K => intK op K k k' a b) (fun _ K => intK op K k k' a b) := by
  unfold intK; split
  · exact .and fun _ => .pure _
  · exact .and fun _ => .pure _
  · split
    · exact .no fun _ h => h
    · split <;> first | exact .pure _ | exact .and fun _ => .pure _ | exact .no fun _ h => h
theorem det_binK (op : BinOp) (d : TD) (c : Bool) (x y : AV) : Det (ι := ι) Any (fun K => binK op d c K x y) (fun _ K => binK op d c K x y) := by
  unfold binK; split
  · split
    · exact det_intK _ _ _ _ _
    · exact .no fun _ h => h
  · split
    · split <;> first | exact .pure _ | exact .and fun _ => .pure _ | exact .no fun _ h => h
    · exact .no fun _ h => h
  · split
    · exact det_eqlB _ _
    · exact .no fun _ h => h
  · exact det_nilK _ _ _ _ _
theorem det_unK (op : UnOp) (x : AV) : Det (ι := ι) Any (fun K => unK op K x) (fun _ K => unK op K x) := by
  unfold unK; split <;> first | exact .pure _ | exact .no fun _ h => h
theorem det_nilCheckK (x : AV) : Det (ι := ι) Any (fun K => nilCheckK K x) (fun _ K => nilCheckK K x) := by
  unfold nilCheckK; split <;> first | exact .pure _ | exact .no fun _ h => h
theorem det_indexK (x y : AV) : Det (ι := ι) Any (fun K => indexK K x y) (fun _ K => indexK K x y) := by
  unfold indexK; split
  · exact (det_idxK _ _).map _
  · exact .no fun _ h => h
theorem det_extractK (i : Nat) (x : AV) : Det (ι := ι) Any (fun K => extractK i K x) (fun _ K => extractK i K x) := by
  unfold extractK; split
  · split
    · exact .pure _
    · exact .no fun _ h => h
  · exact .no fun _ h => h
theorem det_assertK (cx : Cx) (t : TypeId) (ok : Bool) (x : AV) : Det (ι := ι) Any (fun K => assertK cx t ok K x) (fun _ K => assertK cx t ok K x) := by
  unfold assertK; split
  · exact .no fun _ h => h
  · split
    · split
      · exact .pure _
      · exact .no fun _ h => h
    · split
      · exact .pure _
      · split
        · exact .pure _
        · exact .no fun _ h => h
    · exact .no fun _ h => h
theorem det_mmK (mx : Bool) (k : IntKind) : ∀ (l : List AV) (x : Int), Det (ι := ι) Any (fun K => mmK mx k K x l) (fun _ K => mmK mx k K x l)
  | [], x => by simp only [mmK]; exact .pure _
  | y :: l, x => by
    unfold mmK; split
    · rename_i h; cases h
    · rename_i h; cases h; split <;> exact det_mmK _ k _ _
    · exact .no fun _ h => h
theorem det_minmaxK (mx : Bool) (l : List AV) : Det (ι := ι) Any (fun K => minmaxK mx K l) (fun _ K => minmaxK mx K l) := by
  unfold minmaxK; split
  · exact det_mmK _ _ _ _
  · exact .no fun _ h => h
theorem det_buildSliceK (sz : Nat) : ∀ (l : List (Nat × AV)) (n : Nat), Det (ι := ι) Any (fun K => buildSliceK sz n l K) (fun _ K => buildSliceK sz n l K)
  | [], n => by simp only [buildSliceK]; exact .pure _
  | (i, v) :: l, n => by
    simp only [buildSliceK]; split
    · exact det_okCells ((det_buildSliceK sz l (n + 1)).map _) _
    · exact .no fun _ h => h
theorem det_fillK (offs : List (Nat × Nat)) : ∀ (l : List (Nat × AV)) (z : List AV), Det (ι := ι) Any (fun K => fillK offs l z K) (fun _ K => fillK offs l z K)
  | [], z => by simp only [fillK]; exact .pure _
  | (i, v) :: l, z => by
    simp only [fillK]; split
    · split
      · exact det_okCells ((det_updN _ _ _).bind fun a _ => det_fillK offs l a) _
      · exact .no fun _ h => h
    · exact .no fun _ h => h
end
end Go.Eng
/- Soundness: what a light operation does, wherever it looks at the same. -/
namespace Go.Eng
def putO (H : HH) (id : Id) : Option Row → HH | none => H | some r => H.put id r
/-- Another state in which the operation meets what it meets in T, H. -/
structure Alt (cx : Cx) (c : Nat) (xs : List Operand) (T : TT) (H : HH) where
  T2 : TT
  H2 : HH
  ht : ∀ x, x ∈ xs → ev cx T2 x = ev cx T x
  hh : c = 0 ∨ ∀ x, x ∈ xs → ∀ av r row, ev cx T x = some av → headId av = some r → H r = some row → H2 r = some row
def OpLoc (cx : Cx) (q : Bool) (c : Nat) (id : Id) (op : Op) (T : TT) (H : HH) (K : AV → HH → Prop) : Prop :=
  ∃ (v : AV) (u : Option Row), (u ≠ none → H id = none) ∧ (c ≠ 2 → u = none) ∧ K v (putO H id u) ∧
    ∀ (i : Alt cx c op.operands.toList T H) (K2 KP2 : AV → HH → Prop), (u ≠ none → i.H2 id = none) → K2 v (putO i.H2 id u) → opK cx q id op i.T2 i.H2 K2 KP2
section
variable {cx : Cx} {q : Bool} {c : Nat} {id : Id} {op : Op} {T : TT} {H : HH} {K KP : AV → HH → Prop}
theorem loc_val {g : (AV → Prop) → Prop} {G : Alt cx c op.operands.toList T H → (AV → Prop) → Prop} (hd : Det Any g G) (h : g fun v => K v H) (hG : ∀ i K2 KP2, G i (fun v => K2 v i.H2) → opK cx q id op i.T2 i.H2 K2 KP2) : OpLoc cx q c id op T H K := by
  obtain ⟨v, _, h1, h2⟩ := hd _ h
  exact ⟨v, none, fun h => absurd rfl h, fun _ => rfl, h1, fun i K2 KP2 _ hk => hG i K2 KP2 (h2 i _ hk)⟩
theorem loc_row {α : Type} {f : α → AV} {row : α → Row} {g : (α → Prop) → Prop} {G : Alt cx c op.operands.toList T H → (α → Prop) → Prop} (hd : Det Any g G) (hc : c = 2) (h : g fun a => fresh H id (K (f a) (H.put id (row a))))
    (hG : ∀ i K2 KP2, G i (fun a => fresh i.H2 id (K2 (f a) (i.H2.put id (row a)))) → opK cx q id op i.T2 i.H2 K2 KP2) : OpLoc cx q c id op T H K := by
  obtain ⟨v, _, h1, h2⟩ := hd _ h
  obtain ⟨h3, h4⟩ := fresh_iff h1
  refine ⟨f v, some (row v), fun _ => h3, fun h => absurd hc h, h4, fun i K2 KP2 hn hk => hG i K2 KP2 (h2 i _ ?_)⟩
  unfold fresh
  rw [hn (by simp)]
  exact hk
theorem det_withE {xs : List Operand} {x : Operand} (hx : x ∈ xs) : Det (fun v => ev cx T x = some v) (fun K => withE cx T x K) (fun (i : Alt cx c xs T H) K => withE cx i.T2 x K) := by
  intro K h
  unfold withE at h
  split at h
  · rename_i v hv
    refine ⟨v, hv, h, fun i K2 h2 => ?_⟩
    show withE cx i.T2 x K2
    unfold withE
    rw [i.ht x hx, hv]
    exact h2
  · exact h.elim
theorem det_evs {xs : List Operand} : ∀ (l : List Operand), (∀ x, x ∈ l → x ∈ xs) → Det Any (fun K => evs cx T l K) (fun (i : Alt cx c xs T H) K => evs cx i.T2 l K)
  | [], _ => by simp only [evs]; exact .pure _
  | x :: l, h => by
    simp only [evs]
    exact (det_withE (h x (by simp))).bind fun a _ => (det_evs l fun x hx => h x (by simp [hx])).map (a :: ·)
theorem det_partsK {xs : List Operand} : ∀ (l : List (Nat × Operand)), (∀ x, x ∈ l → x.2 ∈ xs) → Det Any (fun K => partsK cx T l K) (fun (i : Alt cx c xs T H) K => partsK cx i.T2 l K)
  | [], _ => by simp only [partsK]; exact .pure _
  | (n, x) :: l, h => by
    simp only [partsK]
    exact (det_withE (h (n, x) (by simp))).bind fun a _ => (det_partsK l fun x hx => h x (by simp [hx])).map ((n, a) :: ·)
theorem det_optE {xs : List Operand} (x : Option Operand) (h : ∀ y, x = some y → y ∈ xs) : Det Any (fun K => optE cx T x K) (fun (i : Alt cx c xs T H) K => optE cx i.T2 x K) := by
  unfold optE; split
  · exact (det_withE (h _ rfl)).map some
  · exact .pure _
theorem det_loadK {xs : List Operand} {t : TypeId} {x : Operand} {v : AV} (hx : x ∈ xs) (hv : ev cx T x = some v) (hc : c ≠ 0) : Det Any (fun K => loadK cx t H K v) (fun (i : Alt cx c xs T H) K => loadK cx t i.H2 K v) := by
  intro K h
  unfold loadK at h
  split at h
  · split at h
    rotate_left
    · exact h.elim
    rename_i r i j _ sz bs es hr
    obtain ⟨a, _, h1, h2⟩ := ((det_nthK (ι := Alt cx c xs T H) es i).bind fun e _ => det_elemK cx t sz e j) K h
    refine ⟨a, trivial, h1, fun i K2 hk => ?_⟩
    have := (i.hh.resolve_left hc) x hx _ _ _ hv rfl hr
    unfold loadK
    simp only [this]
    exact h2 i K2 hk
  · obtain ⟨hi, h⟩ := h
    obtain ⟨a, _, h1, h2⟩ := det_elemK (ι := Alt cx c xs T H) cx t _ _ _ K h
    exact ⟨a, trivial, h1, fun ii K2 hk => ⟨hi, h2 ii K2 hk⟩⟩
  · exact h.elim
theorem det_indexAddrK {xs : List Operand} {sz : Nat} {x : Operand} {v ix : AV} (hx : x ∈ xs) (hv : ev cx T x = some v) (hc : c ≠ 0) : Det Any (fun K => indexAddrK H K sz v ix) (fun (i : Alt cx c xs T H) K => indexAddrK i.H2 K sz v ix) := by
  intro K h
  unfold indexAddrK at h
  split at h
  rotate_left
  · exact h.elim
  split at h
  · split at h
    rotate_left
    · exact h.elim
    rename_i hb
    obtain ⟨a, _, h1, h2⟩ := ((det_idxK (ι := Alt cx c xs T H) _ _).map _) K h
    refine ⟨a, trivial, h1, fun i K2 hk => ?_⟩
    unfold indexAddrK; simp only [hb]; exact h2 i K2 hk
  · rename_i o _ _
    split at h
    rotate_left
    · exact h.elim
    rename_i hr
    split at h
    rotate_left
    · exact h.elim
    rename_i hb
    cases o <;>
    · obtain ⟨a, _, h1, h2⟩ := ((det_idxK (ι := Alt cx c xs T H) _ _).map _) K h
      refine ⟨a, trivial, h1, fun i K2 hk => ?_⟩
      have := (i.hh.resolve_left hc) x hx _ _ _ hv rfl hr
      unfold indexAddrK; simp only [this, hb]; exact h2 i K2 hk
  · split at h
    rotate_left
    · exact h.elim
    rename_i hu
    split at h
    rotate_left
    · exact h.elim
    rename_i hb
    obtain ⟨a, _, h1, h2⟩ := ((det_idxK (ι := Alt cx c xs T H) _ _).map _) K h
    refine ⟨a, trivial, h1, fun i K2 hk => ?_⟩
    unfold indexAddrK; simp only [hu, hb]; exact h2 i K2 hk
  · exact h.elim
theorem det_sliceK {xs : List Operand} {t : TypeId} {x : Operand} {v : AV} {lo hi mx : Option AV} (hx : x ∈ xs) (hv : ev cx T x = some v) (hc : c ≠ 0) : Det Any (fun K => sliceK cx t H lo hi mx K v) (fun (i : Alt cx c xs T H) K => sliceK cx t i.H2 lo hi mx K v) := by
  intro K h
  unfold sliceK at h
  split at h
  · rename_i ht
    split at h
    rotate_left
    · exact h.elim
    split at h
    rotate_left
    · exact h.elim
    obtain ⟨a, _, h1, h2⟩ := (det_bndK (ι := Alt cx c xs T H) lo hi none _ _ fun a b c => .pure _) K h
    refine ⟨a, trivial, h1, fun i K2 hk => ?_⟩
    unfold sliceK; simp only [ht]; exact h2 i K2 hk
  · rename_i ht
    split at h
    rotate_left
    · exact h.elim
    rename_i he
    split at h
    · obtain ⟨a, _, h1, h2⟩ := (det_sliceF (ι := Alt cx c xs T H) _ lo hi mx _) K h
      refine ⟨a, trivial, h1, fun i K2 hk => ?_⟩
      unfold sliceK; simp only [ht, he]; exact h2 i K2 hk
    · obtain ⟨a, _, h1, h2⟩ := (det_sliceF (ι := Alt cx c xs T H) _ lo hi mx _) K h
      refine ⟨a, trivial, h1, fun i K2 hk => ?_⟩
      unfold sliceK; simp only [ht, he]; exact h2 i K2 hk
    · split at h
      rotate_left
      · exact h.elim
      rename_i hr
      split at h
      rotate_left
      · exact h.elim
      rename_i hb
      obtain ⟨a, _, h1, h2⟩ := (Det.and fun _ => det_bndK (ι := Alt cx c xs T H) lo hi mx _ _ fun a b c => det_rowFrom _ _ _ _ _) K h
      refine ⟨a, trivial, h1, fun i K2 hk => ?_⟩
      have := (i.hh.resolve_left hc) x hx _ _ _ hv rfl hr
      unfold sliceK; simp only [ht, he, this, hb]; exact h2 i K2 hk
    · exact h.elim
  · exact h.elim
end
end Go.Eng
/- Soundness: every light operation by what it looks at. -/
namespace Go.Eng
section
variable {cx : Cx} {q : Bool} {id : Id} {T : TT} {H : HH} {K KP : AV → HH → Prop}
theorem convK_loc {c : Nat} {s d : TypeId} {x : Operand} {v : AV} (hx : ev cx T x = some v) (hc : c = 2 ∨ ∃ k n b z, cx.ty d = some ⟨.int k, n, b, z⟩) (h : convK cx id s d H K v) :
    OpLoc cx q c id (.convert s d x) T H K := by
  have hop : (Op.convert s d x).operands.toList = [x] := rfl
  have go : ∀ (i : Alt cx c (Op.convert s d x).operands.toList T H) (K2 KP2 : AV → HH → Prop), convK cx id s d i.H2 K2 v → opK cx q id (.convert s d x) i.T2 i.H2 K2 KP2 := by
    intro i K2 KP2 h
    unfold opK withE
    simp only [i.ht x (by rw [hop]; simp), hx]
    exact h
  have plain : ∀ a : AV, K a H → (∀ (H2 : HH) (K2 : AV → HH → Prop), (c ≠ 0 → ∀ r row, headId v = some r → H r = some row → H2 r = some row) → K2 a H2 → convK cx id s d H2 K2 v) → OpLoc cx q c id (.convert s d x) T H K := by
    intro a hk h
    refine ⟨a, none, fun h => absurd rfl h, fun _ => rfl, hk, fun i K2 KP2 _ h2 => go i K2 KP2 (h i.H2 K2 (fun hc0 r row h1 h2 => ?_) h2)⟩
    exact (i.hh.resolve_left hc0) x (by rw [hop]; simp) v r row hx h1 h2
  have hc' := hc
  unfold convK at h
  split at h
  rotate_left
  · exact h.elim
  rename_i ts _ _ _ td n2 b2 z2 hs hd
  split at h
  · split at h
    rotate_left
    · exact h.elim
    refine plain _ h fun H2 K2 _ h2 => ?_
    unfold convK; simp only [hs, hd]; exact h2
  · split at h
    · split at h
      rotate_left
      · exact h.elim
      refine plain _ h fun H2 K2 _ h2 => ?_
      unfold convK; simp only [hs, hd]; exact h2
    · split at h
      rotate_left
      · exact h.elim
      rename_i hu
      split at h
      · obtain ⟨hb, h⟩ := h
        refine plain _ h fun H2 K2 _ h2 => ?_
        unfold convK; simp only [hs, hd, hu]; exact ⟨hb, h2⟩
      · split at h
        rotate_left
        · exact h.elim
        rename_i hr
        obtain ⟨hb, h⟩ := h
        have hc0 : c ≠ 0 := by
          rcases hc with h | ⟨_, _, _, _, h⟩
          · omega
          · rw [hd] at h; cases h
        refine plain _ h fun H2 K2 hh h2 => ?_
        have := hh hc0 _ _ rfl hr
        unfold convK; simp only [hs, hd, hu, this]; exact ⟨hb, h2⟩
      · exact h.elim
    · exact h.elim
  · split at h
    rotate_left
    · exact h.elim
    split at h
    rotate_left
    · exact h.elim
    rename_i hu
    split at h
    rotate_left
    · exact h.elim
    obtain ⟨h3, h4⟩ := fresh_iff h
    have hc0 : c = 2 := by
      rcases hc with h | ⟨_, _, _, _, h⟩
      · exact h
      · rw [hd] at h; cases h
    refine ⟨_, some _, fun _ => h3, fun h => absurd hc0 h, h4, fun i K2 KP2 hn hk => go i K2 KP2 ?_⟩
    unfold convK; simp only [hs, hd, hu]
    unfold fresh
    rw [hn (by simp)]
    exact hk
  · exact h.elim
theorem opK_loc {op : Op} (hc : clsOf cx q op ≠ 3) (h : opK cx q id op T H K KP) : OpLoc cx q (clsOf cx q op) id op T H K := by
  generalize hcc : clsOf cx q op = c at hc
  unfold opK at h
  split at h
  · exact loc_val (c := c) ((det_withE (by simp [Op.operands])).any) h fun i K2 KP2 h => h
  · exact loc_val (c := c) ((det_withE (by simp [Op.operands])).any) h fun i K2 KP2 h => h
  · -- pick
    rename_i x y z
    refine loc_val (c := c) (g := fun K => withE cx T x fun v => match v with
      | .lit (.bool t) => Br t (fun _ => withE cx T y fun v => K v) (fun _ => withE cx T z fun v => K v)
      | _ => False) (G := fun i K => withE cx i.T2 x fun v => match v with
      | .lit (.bool t) => Br t (fun _ => withE cx i.T2 y fun v => K v) (fun _ => withE cx i.T2 z fun v => K v)
      | _ => False) ?_ h fun i K2 KP2 h => h
    refine (det_withE (by simp [Op.operands])).bind fun a _ => ?_
    split
    · unfold Br; split
      · exact (det_withE (by simp [Op.operands])).any
      · exact (det_withE (by simp [Op.operands])).any
    · exact .no fun _ h => h
  · -- alloc
    split at h
    rotate_left
    · exact h.elim
    rename_i ht
    simp only [clsOf] at hcc
    refine loc_row (c := c) (α := Unit) (f := fun _ => .ptr id 0 0) (row := fun _ => .cells _ _ [_]) (G := fun _ K => K ()) (.pure ()) (by omega) h fun i K2 KP2 h => ?_
    unfold opK; simp only [ht]; exact h
  · -- box
    rename_i t x
    obtain ⟨v, hv, h⟩ := withE_iff h
    split at h
    rotate_left
    · exact h.elim
    rename_i _ sz bs _ ht
    split at h
    rotate_left
    · exact h.elim
    rename_i hn
    simp only [clsOf] at hcc
    obtain ⟨hok, h⟩ := okCells_iff h
    have go : ∀ (i : Alt cx c (Op.box t x).operands.toList T H) (K2 KP2 : AV → HH → Prop), (BoxP (fresh i.H2 id (K2 (.ptr id 0 0) (i.H2.put id (.cells sz bs [cellsOf v])))) (idfL (cellsOf v) = true ∧ K2 (.fptr sz 1 (fun _ => cellsOf v) 0 0) i.H2)) → opK cx q id (.box t x) i.T2 i.H2 K2 KP2 := by
      intro i K2 KP2 h
      unfold opK withE
      simp only [i.ht x (by simp [Op.operands]), hv, ht, hn]
      exact okCells_of hok h
    rcases h with h | ⟨hi, h⟩
    · obtain ⟨h3, h4⟩ := fresh_iff h
      exact ⟨_, some _, fun _ => h3, fun h => by omega, h4, fun i K2 KP2 hn hk => go i K2 KP2 (.row (by unfold fresh; rw [hn (by simp)]; exact hk))⟩
    · exact ⟨_, none, fun h => absurd rfl h, fun _ => rfl, h, fun i K2 KP2 _ hk => go i K2 KP2 (.frz ⟨hi, hk⟩)⟩
  · -- build
    rename_i t ps
    split at h
    rotate_left
    · exact h.elim
    rename_i ht
    refine loc_val (c := c) ((det_partsK ps.toList fun x hx => ?_).bind fun a _ => (det_fillK _ a _).map AV.agg) h fun i K2 KP2 h => ?_
    · simp only [Op.operands, List.mem_map]; exact ⟨x, hx, rfl⟩
    · unfold opK; simp only [ht]; exact h
  · -- buildSlice
    rename_i t n ps
    split at h
    rotate_left
    · exact h.elim
    rename_i ht
    split at h
    rotate_left
    · exact h.elim
    rename_i _ sz bs _ he
    split at h
    rotate_left
    · exact h.elim
    rename_i h1 h2 h3
    simp only [clsOf] at hcc
    obtain ⟨es, _, h, hd⟩ := ((det_partsK (c := c) (H := H) (xs := (Op.buildSlice t n ps).operands.toList) ps.toList fun x hx => by simp only [Op.operands, List.mem_map]; exact ⟨x, hx, rfl⟩).bind fun a _ => det_buildSliceK _ a _) _ h
    have go : ∀ (i : Alt cx c (Op.buildSlice t n ps).operands.toList T H) (K2 KP2 : AV → HH → Prop), (BuildP (fresh i.H2 id (K2 (.row id 0 n none) (i.H2.put id (.cells sz bs es)))) (es.all idfL = true ∧ K2 (.fsl none sz bs n (fun i => es.getD i [])) i.H2)) → opK cx q id (.buildSlice t n ps) i.T2 i.H2 K2 KP2 := by
      intro i K2 KP2 h
      unfold opK; simp only [ht, he, h1, h2, h3]
      exact hd i _ h
    rcases h with h | ⟨hi, h⟩
    · obtain ⟨h3, h4⟩ := fresh_iff h
      exact ⟨_, some _, fun _ => h3, fun h => by omega, h4, fun i K2 KP2 hn hk => go i K2 KP2 (.row (by unfold fresh; rw [hn (by simp)]; exact hk))⟩
    · exact ⟨_, none, fun h => absurd rfl h, fun _ => rfl, h, fun i K2 KP2 _ hk => go i K2 KP2 (.frz ⟨hi, hk⟩)⟩
  · -- load
    rename_i t x
    obtain ⟨v, hv, h⟩ := withE_iff h
    simp only [clsOf] at hcc
    refine loc_val (c := c) (det_loadK (x := x) (by simp [Op.operands]) hv (by omega)) h fun i K2 KP2 h => ?_
    unfold opK withE
    simp only [i.ht x (by simp [Op.operands]), hv]; exact h
  · exact absurd (hcc.symm.trans rfl) hc
  · exact loc_val (c := c) ((det_withE (by simp [Op.operands])).bind fun a _ => det_nilCheckK a) h fun i K2 KP2 h => h
  · -- binOp
    rename_i op t x y z
    refine loc_val (c := c) (g := fun K => withE cx T x fun a => withE cx T y fun b => match cx.ty t with | some ⟨d, _, _, _⟩ => binK op d (isCst x || isCst y) K a b | none => False) (G := fun i K => withE cx i.T2 x fun a => withE cx i.T2 y fun b => match cx.ty t with | some ⟨d, _, _, _⟩ => binK op d (isCst x || isCst y) K a b | none => False) ((det_withE (by simp [Op.operands])).bind fun a _ => (det_withE (by simp [Op.operands])).bind fun b _ => ?_) h fun i K2 KP2 h => h
    split
    · exact det_binK _ _ _ _ _
    · exact .no fun _ h => h
  · exact loc_val (c := c) ((det_withE (by simp [Op.operands])).bind fun a _ => det_unK _ a) h fun i K2 KP2 h => h
  · -- convert
    rename_i s d x
    obtain ⟨v, hv, h⟩ := withE_iff h
    refine convK_loc hv ?_ h
    simp only [clsOf] at hcc
    split at hcc
    · exact .inr ⟨_, _, _, _, ‹_›⟩
    · exact .inl (by omega)
  · -- makeInterface
    rename_i t x
    obtain ⟨v, hv, h⟩ := withE_iff h
    have e : ∀ (i : Alt cx c (Op.makeInterface t x).operands.toList T H) (K2 KP2 : AV → HH → Prop), (match cx.ty t with | some ⟨.iface, _, _, _⟩ => False | some _ => K2 (.ifc t v) i.H2 | none => False) → opK cx q id (.makeInterface t x) i.T2 i.H2 K2 KP2 := by
      intro i K2 KP2 h
      unfold opK withE
      simp only [i.ht x (by simp [Op.operands]), hv]; exact h
    split at h
    · exact h.elim
    · rename_i d hd ht
      refine loc_val (c := c) (G := fun _ K => K (.ifc t v)) (.pure (AV.ifc t v)) h fun i K2 KP2 h => e i K2 KP2 ?_
      rw [ht]
      split
      · rename_i h1; cases h1; exact (hd _ _ _ rfl).elim
      · exact h
      · rename_i h1; cases h1
    · exact h.elim
  · -- makeFunc
    rename_i fn a b
    exact loc_val (c := c) ((det_evs a.toList fun x hx => by simp [Op.operands]; exact .inl (by simpa using hx)).bind fun l _ => (det_evs b.toList fun x hx => by simp [Op.operands]; exact .inr (by simpa using hx)).map fun m => AV.clo fn l m) h fun i K2 KP2 h => h
  · -- makeSlice
    rename_i t l n
    obtain ⟨a, ha, h⟩ := withE_iff h
    obtain ⟨b, hb, h⟩ := withE_iff h
    unfold makeSliceK at h
    split at h
    rotate_left
    · exact h.elim
    rename_i ht
    split at h
    rotate_left
    · exact h.elim
    rename_i he
    simp only [clsOf] at hcc
    unfold asInt at h
    split at h
    rotate_left
    · exact h.elim
    split at h
    rotate_left
    · exact h.elim
    split at h
    rotate_left
    · exact h.elim
    refine loc_row (c := c) (α := Unit) (f := fun _ => .row id 0 _ none) (row := fun _ => .cells _ _ (List.replicate _ _)) (Det.and fun _ => .pure ()) (by omega) h fun i K2 KP2 h => ?_
    unfold opK withE makeSliceK asInt
    simp only [i.ht l (by simp [Op.operands]), i.ht n (by simp [Op.operands]), ha, hb, ht, he]; exact h
  · -- slice
    rename_i t x lo hi mx
    obtain ⟨v, hv, h⟩ := withE_iff h
    simp only [clsOf] at hcc
    refine loc_val (c := c) (g := fun K => optE cx T lo fun lo => optE cx T hi fun hi => optE cx T mx fun mx => sliceK cx t H lo hi mx K v) ((det_optE lo ?_).bind fun a _ => (det_optE hi ?_).bind fun b _ => (det_optE mx ?_).bind fun d _ => det_sliceK (x := x) (by simp [Op.operands]) hv (by omega)) h fun i K2 KP2 h => ?_
    · intro y hy; subst hy; simp [Op.operands]
    · intro y hy; subst hy; simp [Op.operands]
    · intro y hy; subst hy; simp [Op.operands]
    · unfold opK withE
      simp only [i.ht x (by simp [Op.operands]), hv]; exact h
  · -- fieldAddr
    rename_i t x f
    refine loc_val (c := c) (g := fun K => withE cx T x fun v => match cx.ty t with | some ⟨d, _, _, _⟩ => fieldOff d f fun off => fieldAddrK off K v | none => False) (G := fun i K => withE cx i.T2 x fun v => match cx.ty t with | some ⟨d, _, _, _⟩ => fieldOff d f fun off => fieldAddrK off K v | none => False) ((det_withE (by simp [Op.operands])).bind fun a _ => ?_) h fun i K2 KP2 h => h
    split
    · exact (det_fieldOff _ _).bind fun o _ => det_fieldAddrK o a
    · exact .no fun _ h => h
  · -- indexAddr
    rename_i t x n
    obtain ⟨v, hv, h⟩ := withE_iff h
    obtain ⟨b, hb, h⟩ := withE_iff h
    simp only [clsOf] at hcc
    split at h
    rotate_left
    · exact h.elim
    rename_i ht
    split at h
    rotate_left
    · exact h.elim
    rename_i he
    refine loc_val (c := c) (det_indexAddrK (x := x) (by simp [Op.operands]) hv (by omega)) h fun i K2 KP2 h => ?_
    unfold opK withE
    simp only [i.ht x (by simp [Op.operands]), i.ht n (by simp [Op.operands]), hv, hb, ht, he]; exact h
  · -- index
    rename_i t x n
    refine loc_val (c := c) (g := fun K => withE cx T x fun v => withE cx T n fun ix => match cx.ty t with | some ⟨.string, _, _, _⟩ => indexK K v ix | _ => False) (G := fun i K => withE cx i.T2 x fun v => withE cx i.T2 n fun ix => match cx.ty t with | some ⟨.string, _, _, _⟩ => indexK K v ix | _ => False) ((det_withE (by simp [Op.operands])).bind fun a _ => (det_withE (by simp [Op.operands])).bind fun b _ => ?_) h fun i K2 KP2 h => h
    split
    · exact det_indexK _ _
    · exact .no fun _ h => h
  · exact loc_val (c := c) ((det_withE (by simp [Op.operands])).bind fun a _ => det_extractK _ a) h fun i K2 KP2 h => h
  · -- typeAssert
    rename_i x _ t ok
    refine loc_val (c := c) (g := fun K => withE cx T x fun v => match cx.ty t with | some ⟨.iface, _, _, _⟩ => False | some _ => assertK cx t ok K v | none => False) (G := fun i K => withE cx i.T2 x fun v => match cx.ty t with | some ⟨.iface, _, _, _⟩ => False | some _ => assertK cx t ok K v | none => False) ((det_withE (by simp [Op.operands])).bind fun a _ => ?_) h fun i K2 KP2 h => h
    split
    · exact .no fun _ h => h
    · exact det_assertK _ _ _ _
    · exact .no fun _ h => h
  · -- call
    rename_i cl
    obtain ⟨callee, args, argTypes⟩ := cl
    have hin : ∀ x, x ∈ args.toList → x ∈ (Op.call ⟨callee, args, argTypes⟩).operands.toList := by
      intro x hx
      cases callee <;> simp [Op.operands, Call.operands] <;> first | (exact .inr (by simpa using hx)) | (simpa using hx)
    unfold callK at h
    simp only at h
    cases callee with
    | builtin b =>
      have pass : ∀ (f : List AV → (AV → Prop) → Prop), (∀ l, Det (ι := Alt cx c (Op.call ⟨.builtin b, args, argTypes⟩).operands.toList T H) Any (f l) (fun _ => f l)) → (evs cx T args.toList fun args => f args fun v => K v H) →
          (∀ T2 H2 (K2 KP2 : AV → HH → Prop), (evs cx T2 args.toList fun args => f args fun v => K2 v H2) → opK cx q id (.call ⟨.builtin b, args, argTypes⟩) T2 H2 K2 KP2) → OpLoc cx q c id (.call ⟨.builtin b, args, argTypes⟩) T H K := by
        intro f hf h he
        exact loc_val (c := c) ((det_evs args.toList hin).bind fun l _ => hf l) h fun i K2 KP2 h => he _ _ _ _ h
      cases b <;> simp only at h <;> first
        | exact absurd (hcc.symm.trans rfl) hc
        | skip
      · refine pass (fun args K => match argTypes.toList, args with | t :: _, [x] => (match cx.ty t with | some ⟨d, _, _, _⟩ => lenK d K x | none => False) | _, _ => False) (fun l => ?_) h fun T2 H2 K2 KP2 h => h
        split
        · split
          · exact det_lenK _ _
          · exact .no fun _ h => h
        · exact .no fun _ h => h
      all_goals first
        | exact pass (fun args K => minmaxK false K args) (fun l => det_minmaxK _ _) h fun T2 H2 K2 KP2 h => h
        | exact pass (fun args K => minmaxK true K args) (fun l => det_minmaxK _ _) h fun T2 H2 K2 KP2 h => h
    | value f =>
      cases q with
      | false => exact absurd (hcc.symm.trans rfl) hc
      | true =>
        simp only at h
        have hf : f ∈ (Op.call ⟨.value f, args, argTypes⟩).operands.toList := by simp [Op.operands, Call.operands]
        obtain ⟨l, _, h, hl⟩ := det_evs (c := c) (H := H) (xs := (Op.call ⟨.value f, args, argTypes⟩).operands.toList) args.toList hin _ h
        split at h
        rotate_left
        · exact h.elim
        rename_i g first cap he
        obtain ⟨args0, v, h1, h2, h3⟩ := h
        refine ⟨v, none, fun h => absurd rfl h, fun _ => rfl, h3, fun i K2 KP2 _ hk => ?_⟩
        unfold opK callK
        simp only
        refine hl i _ ?_
        rw [i.ht f hf, he]
        exact ⟨args0, v, h1, h2, hk⟩
    | invoke f name =>
      cases q with
      | false => exact absurd (hcc.symm.trans rfl) hc
      | true =>
        simp only at h
        have hf : f ∈ (Op.call ⟨.invoke f name, args, argTypes⟩).operands.toList := by simp [Op.operands, Call.operands]
        obtain ⟨l, _, h, hl⟩ := det_evs (c := c) (H := H) (xs := (Op.call ⟨.invoke f name, args, argTypes⟩).operands.toList) args.toList hin _ h
        obtain ⟨vv, hv, h⟩ := withE_iff h
        split at h
        rotate_left
        · exact h.elim
        split at h
        rotate_left
        · exact h.elim
        rename_i hm
        obtain ⟨args0, v, h1, h2, h3⟩ := h
        refine ⟨v, none, fun h => absurd rfl h, fun _ => rfl, h3, fun i K2 KP2 _ hk => ?_⟩
        unfold opK callK
        simp only
        refine hl i _ ?_
        unfold withE
        rw [i.ht f hf, hv]
        simp only [hm]
        exact ⟨args0, v, h1, h2, hk⟩
  all_goals first
    | exact absurd (hcc.symm.trans rfl) hc
    | exact h.elim
end
end Go.Eng
/- Soundness: operations in other orders. -/
namespace Go.Eng
section
variable {cx : Cx}
theorem withE_congr {T T2 : TT} {x : Operand} (h : ev cx T2 x = ev cx T x) : withE cx T2 x = withE cx T x := by
  unfold withE; rw [h]
theorem evs_congr {T T2 : TT} : ∀ {l : List Operand}, (∀ x, x ∈ l → ev cx T2 x = ev cx T x) → evs cx T2 l = evs cx T l
  | [], _ => rfl
  | x :: l, h => by
    funext k
    simp only [evs]
    rw [withE_congr (h x (by simp)), evs_congr fun y hy => h y (by simp [hy])]
theorem partsK_congr {T T2 : TT} : ∀ {l : List (Nat × Operand)}, (∀ x, x ∈ l → ev cx T2 x.2 = ev cx T x.2) → partsK cx T2 l = partsK cx T l
  | [], _ => rfl
  | (n, x) :: l, h => by
    funext k
    simp only [partsK]
    rw [withE_congr (h (n, x) (by simp)), partsK_congr fun y hy => h y (by simp [hy])]
theorem optE_congr {T T2 : TT} {x : Option Operand} (h : ∀ y, x = some y → ev cx T2 y = ev cx T y) : optE cx T2 x = optE cx T x := by
  funext k
  unfold optE
  cases x with
  | none => rfl
  | some x => simp only; rw [withE_congr (h x rfl)]
theorem opK_congr {q : Bool} {id : Id} {op : Op} {T T2 : TT} {H : HH} {K KP : AV → HH → Prop} (h : ∀ x, x ∈ op.operands.toList → ev cx T2 x = ev cx T x) : opK cx q id op T2 H K KP = opK cx q id op T H K KP := by
  unfold opK
  cases op <;> (try simp only) <;> (try simp only [Op.operands, List.mem_cons, List.not_mem_nil, or_false, forall_eq_or_imp, forall_eq] at h) <;> first
    | rfl
    | rw [withE_congr h]
    | (rw [withE_congr h.1, withE_congr h.2]; done)
    | skip
  case pick => rw [withE_congr h.1, withE_congr h.2.1, withE_congr h.2.2]
  case makeMap t r => cases r <;> rfl
  case mapUpdate => rw [withE_congr h.1, withE_congr h.2.1, withE_congr h.2.2]
  case insert => rw [withE_congr h.1, withE_congr h.2.1, withE_congr h.2.2]
  case build => rw [partsK_congr fun x hx => h x.2 (List.mem_map.2 ⟨x, hx, rfl⟩)]
  case buildSlice => rw [partsK_congr fun x hx => h x.2 (List.mem_map.2 ⟨x, hx, rfl⟩)]
  case makeFunc a b => rw [evs_congr fun x hx => h x (by simp; exact .inl (by simpa using hx)), evs_congr (l := b.toList) fun x hx => h x (by simp; exact .inr (by simpa using hx))]
  case slice t x lo hi mx =>
    rw [withE_congr (h x (by simp)), optE_congr (x := lo) fun y hy => h y (by subst hy; simp), optE_congr (x := hi) fun y hy => h y (by subst hy; simp), optE_congr (x := mx) fun y hy => h y (by subst hy; simp)]
  case call c =>
    obtain ⟨callee, args, argTypes⟩ := c
    unfold callK
    cases callee with
    | builtin b => simp only; rw [evs_congr fun x hx => h x (by simpa [Call.operands] using hx)]
    | value f => simp only; rw [evs_congr fun x hx => h x (by simp [Call.operands]; exact .inr (by simpa using hx)), h f (by simp [Call.operands])]
    | invoke f n => simp only; rw [evs_congr fun x hx => h x (by simp [Call.operands]; exact .inr (by simpa using hx)), withE_congr (h f (by simp [Call.operands]))]
theorem det_storeK (H : HH) (v x : AV) : Det (ι := Unit) Any (fun K => storeK H v K x) (fun _ K => storeK H v K x) := by
  unfold storeK
  split
  · split
    · refine det_okCells ((det_nthK _ _).bind fun e _ => (det_updN _ _ _).bind fun e' _ => ?_) _
      split <;> exact .pure _
    · exact .no fun _ h => h
  · exact .no fun _ h => h
/-- A predicate transformer keeps what follows. -/
def Mon {α : Type} (f : (α → Prop) → Prop) : Prop := ∀ K K' : α → Prop, (∀ a, K a → K' a) → f K → f K'
theorem Mon.pure {α : Type} (a : α) : Mon (fun K => K a) := fun _ _ hk h => hk _ h
theorem Mon.no {α : Type} : Mon (fun _ : α → Prop => False) := fun _ _ _ h => h
theorem Mon.and {α : Type} {P : Prop} {f : (α → Prop) → Prop} (h : Mon f) : Mon (fun K => P ∧ f K) := fun _ _ hk h' => ⟨h'.1, h _ _ hk h'.2⟩
theorem Mon.or {α : Type} {f g : (α → Prop) → Prop} (h : Mon f) (h2 : Mon g) : Mon (fun K => f K ∨ g K) := fun _ _ hk h' => h'.imp (h _ _ hk) (h2 _ _ hk)
theorem Mon.app {α : Type} {f g : (α → Prop) → Prop} (h : Mon f) (h2 : Mon g) : Mon (fun K => AppP (f K) (g K)) := fun _ _ hk h' => by
  cases h' with
  | fit h' => exact .fit (h _ _ hk h')
  | grow h' => exact .grow (h2 _ _ hk h')
theorem Mon.fresh {α : Type} {H : HH} {id : Id} {f : (α → Prop) → Prop} (h : Mon f) : Mon (fun K => fresh H id (f K)) := by
  unfold Eng.fresh; split
  · exact h
  · exact .no
theorem Mon.bind {α β : Type} {f : (α → Prop) → Prop} (hf : Mon f) {g : α → (β → Prop) → Prop} (hg : ∀ a, Mon (g a)) : Mon (fun K => f fun a => g a K) := fun _ _ hk h => hf _ _ (fun a h => hg a _ _ hk h) h
theorem mon_contentK (H : HH) (sz : Nat) (x : AV) : Mon (fun K : Nat × List (List AV) → Prop => contentK H sz (fun n l => K (n, l)) x) := by
  unfold contentK
  split
  · split
    · split
      · split
        · exact .pure _
        · exact .and (.pure _)
      · exact .no
    · exact .no
  · split
    · exact .pure _
    · split
      · exact .pure _
      · exact .no
  · split
    · split
      · exact .pure _
      · exact .no
    · exact .no
  · split
    · exact .pure _
    · exact .no
  · exact .no
theorem mon_appendTo (sz bs : Nat) (id : Id) (H : HH) (m : Nat) (xs : List (List AV)) (x : AV) : Mon (fun K : AV × HH → Prop => appendTo sz bs id H m xs (fun v H' => K (v, H')) x) := by
  unfold appendTo
  split
  · exact .and (.fresh (.pure _))
  · split
    · exact .and (.fresh (.pure _))
    · exact .no
  · split
    · split
      · exact .app (.and (.pure _)) (.and (.fresh (.pure _)))
      · exact .no
    · exact .no
  · split
    · split
      · exact .and (.fresh (.pure _))
      · exact .no
    · exact .no
  · exact .no
theorem mon_appendK (cx : Cx) (id : Id) (t t2 : TypeId) (H : HH) (s x : AV) : Mon (fun K : AV × HH → Prop => appendK cx id t t2 H (fun v H' => K (v, H')) s x) := by
  unfold appendK
  split
  · split
    · split
      · split
        · exact (mon_contentK H _ x).bind fun a => mon_appendTo _ _ _ _ a.1 a.2 _
        · exact (mon_contentK H _ x).bind fun a => mon_appendTo _ _ _ _ a.1 a.2 _
        · exact .no
      · exact .no
    · exact .no
  · exact .no
theorem mon_copyK (cx : Cx) (t : TypeId) (H : HH) (d x : AV) : Mon (fun K : AV × HH → Prop => copyK cx t H (fun v H' => K (v, H')) d x) := by
  unfold copyK
  split
  · split
    · split
      · split
        · split
          · exact .and fun K K' hk h => mon_contentK H _ x (fun a => K (.lit (.int .i64 (min a.1 _ : Nat)), H.put _ (.cells _ _ (over _ _ (a.2.take _))))) _ (fun a h => hk _ h) h
          · exact .no
        · exact .no
      · exact .no
    · exact .no
  · exact .no
theorem mon_clearK (cx : Cx) (t : TypeId) (H : HH) (d : AV) : Mon (fun K : AV × HH → Prop => clearK cx t H (fun v H' => K (v, H')) d) := by
  unfold clearK
  split
  · split
    · split
      · split
        · split
          · exact .and (.pure _)
          · exact .no
        · exact .no
      · exact .no
    · exact .no
  · exact .no
theorem mon_lookRes (cx : Cx) (e : TypeId) (ok : Bool) (o : Option AV) : Mon (fun K : AV → Prop => lookRes cx e ok K o) := by
  unfold lookRes
  split
  · split <;> exact .pure _
  · split
    · split <;> exact .pure _
    · exact .no
theorem mon_lookupK (cx : Cx) (t : TypeId) (ok : Bool) (H : HH) (m x : AV) : Mon (fun K : AV → Prop => lookupK cx t ok H K m x) := by
  unfold lookupK
  split
  · split
    · split
      · split
        · exact fun K K' hk ⟨o, h1, h2⟩ => ⟨o, h1, mon_lookRes _ _ _ _ _ _ hk h2⟩
        · exact .no
      · exact mon_lookRes _ _ _ _
      · exact .no
    · exact .no
  · exact .no
theorem mon_mapUpdateK (cx : Cx) (t : TypeId) (H : HH) (m x v : AV) : Mon (fun K : HH → Prop => mapUpdateK cx t H K m x v) := by
  unfold mapUpdateK
  split
  · split
    · split
      · split
        · exact fun K K' hk ⟨o, h1, h2⟩ => ⟨o, h1, hk _ h2⟩
        · exact .no
      · exact .no
    · exact .no
  · exact .no
theorem CallW_mono {q : Bool} {f : FuncId} {args : List AV} {H : HH} {K K' KP KP' : AV → HH → Prop} (hk : ∀ v H', K v H' → K' v H') (hp : ∀ v H', KP v H' → KP' v H') (h : CallW cx q f args H K KP) : CallW cx q f args H K' KP' := by
  replace h := h.h
  refine ⟨?_⟩
  cases q
  rotate_left
  · obtain ⟨a, v, h1, h2, h3⟩ := h
    exact ⟨a, v, h1, h2, hk _ _ h3⟩
  · obtain ⟨Post, h1, h2⟩ := h
    refine ⟨Post, h1, fun o H' ho => ?_⟩
    have := h2 o H' ho
    cases o with
    | ret v => exact hk _ _ this
    | pan v => exact hp _ _ this
theorem withE_mono {T : TT} {x : Operand} {k k' : AV → Prop} (hk : ∀ v, k v → k' v) (h : withE cx T x k) : withE cx T x k' := by
  unfold withE at *
  generalize ev cx T x = y at *
  cases y with
  | none => exact h
  | some v => exact hk _ h
theorem evs_mono {T : TT} : ∀ {l : List Operand} {k k' : List AV → Prop}, (∀ v, k v → k' v) → evs cx T l k → evs cx T l k'
  | [], _, _, hk, h => hk _ h
  | _ :: _, _, _, hk, h => by
    simp only [evs] at *
    exact withE_mono (fun v h => evs_mono (fun l h => hk _ h) h) h
theorem opK_mono {q : Bool} {id : Id} {op : Op} {T : TT} {H : HH} {K K' KP KP' : AV → HH → Prop} (hk : ∀ v H', K v H' → K' v H') (hp : ∀ v H', KP v H' → KP' v H') (h : opK cx q id op T H K KP) : opK cx q id op T H K' KP' := by
  by_cases hc : clsOf cx q op = 3
  · unfold opK at h ⊢
    split at h
    case h_9 => -- store
      refine withE_mono (fun p h => withE_mono (fun v h => ?_) h) h
      split at h
      · split at h
        · obtain ⟨H', _, h1, h2⟩ := det_storeK _ _ _ _ h
          exact h2 () _ (hk _ _ h1)
        · exact h
      · exact h
    case h_23 => -- call
      rename_i c
      obtain ⟨callee, args, argTypes⟩ := c
      unfold callK at *
      refine evs_mono (fun l h => ?_) h
      cases callee with
      | builtin b =>
        cases b <;> simp only [clsOf] at hc <;> first | exact h.elim | contradiction | skip
        · simp only at h ⊢
          split at h
          · exact mon_appendK _ _ _ _ _ _ _ (fun p => K p.1 p.2) (fun p => K' p.1 p.2) (fun p h => hk _ _ h) h
          · exact h
        · simp only at h ⊢
          split at h
          · exact mon_clearK _ _ _ _ (fun p => K p.1 p.2) (fun p => K' p.1 p.2) (fun p h => hk _ _ h) h
          · exact h
        · simp only at h ⊢
          split at h
          · exact mon_copyK _ _ _ _ _ (fun p => K p.1 p.2) (fun p => K' p.1 p.2) (fun p h => hk _ _ h) h
          · exact h
      | value f =>
        simp only at h ⊢
        split at h
        · exact CallW_mono hk hp h
        · exact h
      | invoke f n =>
        simp only at h ⊢
        refine withE_mono (fun v h => ?_) h
        split at h
        · split at h
          · exact CallW_mono hk hp h
          · exact h
        · exact h
    case h_24 => -- panic
      refine withE_mono (fun v h => ?_) h
      split at h
      · exact hp _ _ h
      · exact h
    case h_25 => -- makeMap
      exact Mon.fresh (f := fun K : HH → Prop => K _) (.pure _) (fun H' => K (.mref id) H') (fun H' => K' (.mref id) H') (fun _ h => hk _ _ h) h
    case h_26 => -- lookup
      refine withE_mono (fun m h => withE_mono (fun v h => ?_) h) h
      exact mon_lookupK _ _ _ _ _ _ (fun r => K r H) (fun r => K' r H) (fun _ h => hk _ _ h) h
    case h_27 => -- mapUpdate
      refine withE_mono (fun m h => withE_mono (fun v h => withE_mono (fun z h => ?_) h) h) h
      exact mon_mapUpdateK _ _ _ _ _ _ (fun H' => K skipV H') (fun H' => K' skipV H') (fun _ h => hk _ _ h) h
    case h_28 => -- insert
      refine withE_mono (fun m h => withE_mono (fun v h => withE_mono (fun z h => ?_) h) h) h
      exact mon_mapUpdateK _ _ _ _ _ _ (fun H' => K skipV H') (fun H' => K' skipV H') (fun _ h => hk _ _ h) h
    case h_29 => -- range
      refine withE_mono (fun v h => ?_) h
      unfold rangeK at h ⊢
      split at h
      · exact Mon.fresh (f := fun K : HH → Prop => K _) (.pure _) (fun H' => K (.ptr id 0 0) H') (fun H' => K' (.ptr id 0 0) H') (fun _ h => hk _ _ h) h
      · exact h.elim
    case h_30 => -- next
      refine withE_mono (fun v h => ?_) h
      unfold nextK at h ⊢
      split at h
      · split at h
        · unfold Br at h ⊢
          split at h
          · exact hk _ _ h
          · exact hk _ _ h
        · exact h.elim
      · exact h.elim
    all_goals first
      | exact h.elim
      | (simp only [clsOf] at hc; first | contradiction | (split at hc <;> contradiction))
  · obtain ⟨v, u, h1, h2, h3, h4⟩ := opK_loc hc h
    exact h4 ⟨T, H, fun _ _ => rfl, .inr fun _ _ _ _ _ _ _ h => h⟩ K' KP' h1 (hk _ _ h3)
end
end Go.Eng

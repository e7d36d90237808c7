/- Eng08: an engine for the program's code, and walks of its functions (AA AB AC AD AE). -/
import Derived.Test.YtlcepambcoobgaaGreatDoorEng07
import Derived.TacticsIn
import Derived.RangeFuncLeaves
import Derived.RangeFuncRecord
/- Soundness: code, functions. -/
namespace Go.Eng
section
variable {cx : Cx} {nt : Nat} {E : Entry}
theorem SimX.sub {T T' : TT} {H H' : HH} {a : Act} {w : World} {μ : Id → Option Loc} {F : Nat → Prop} (s : SimX cx nt E T H a w μ F) (h : Sub T H T' H') : ∃ μ' F', SimX cx nt E T' H' a w μ' F' := by
  obtain ⟨μ', F', h1, h2, h3, h4, h5, h6⟩ := h w μ F (fun t => a.tmps.getD t undef) s.h s.t
  refine ⟨μ', F', h1, s.g.mono (fun _ _ => rfl) h3, fun t av ht => (h2 t av ht).2, fun t av ht => ?_, s.n, s.d.sub h4 h5, ?_⟩
  · obtain ⟨bv, hb⟩ := (h2 t av ht).1
    exact s.b t bv hb
  · exact ⟨s.f.os, s.f.tape, s.f.output, s.f.size, s.f.keep, fun r l h0 h => h6 r l h0 (s.f.mu r l h0 h), fun b hb => h3 b (s.f.fr b hb), fun b hb => (h4 b hb).elim (s.f.fr' b) (fun h => (s.f.lv b h).elim (fun h => .inr (.inl h)) fun h => .inr (.inr h)), fun b hb => s.f.lv b (h5 b hb)⟩
theorem SimX.facts {T : TT} {H : HH} {a : Act} {w : World} {μ : Id → Option Loc} {F : Nat → Prop} (s : SimX cx nt E T H a w μ F) : Facts T H := by
  have fs : ∀ {c sz bs n el v}, RepF w F (.fsl c sz bs n el) v → n * bs ≤ R := by
    intro c sz bs n el v h
    cases h with
    | fsE _ => simp
    | fs _ _ _ _ _ hR => exact hR
  refine ⟨fun t x h => ?_, fun t c sz bs n el h => fs (Rep_fsl (s.t t _ h)), fun t d c sz bs n el h hd => ?_, fun r sz bs es hr => ?_⟩
  · exact (Rep_lit (s.t t _ h)).2
  · have := Rep_lz (s.t t _ h)
    rw [hd] at this
    exact fs this
  · obtain ⟨l, _, h1, h2, h3, h4, _⟩ := s.h.rows r _ hr
    exact h4
theorem SimX.drew {T : TT} {H : HH} {a : Act} {w : World} {μ : Id → Option Loc} {F : Nat → Prop} (s : SimX cx nt E T H a w μ F) : SimX cx nt E T H a { w with drawn := w.drawn + 1 } μ F := by
  have k3 : Fr w μ F H { w with drawn := w.drawn + 1 } μ F H := ⟨rfl, rfl, rfl, Nat.le_refl _, fun _ _ _ => rfl, fun _ _ h => h, fun _ h => h, fun _ h => .inl h, fun _ h => .inr h⟩
  refine ⟨s.h.same (Nat.le_refl _) (fun _ _ => rfl), GOK.mono (w := w) (F := F) (fun _ _ => rfl) (fun _ h => h) s.g, fun t u hu => k3.rep s.h (s.t t u hu), s.b, s.n, s.d.step k3, s.f.step k3⟩
theorem least {p : Nat → Prop} (h : ∃ n, p n) : ∃ n, p n ∧ ∀ m, p m → n ≤ m := by
  obtain ⟨n, hn⟩ := h
  induction n using Nat.strongRecOn with
  | _ n ih =>
    by_cases hx : ∃ m, m < n ∧ p m
    · obtain ⟨m, hm, hp⟩ := hx
      exact ih m hm hp
    · exact ⟨n, hn, fun m hm => Nat.le_of_not_lt fun hl => hx ⟨m, hl, hm⟩⟩
theorem loop_wp {P : Program} {Q : Exit → Act → World → Prop} {c : Code} {ι : Type} (m : ι → Nat) (I : ι → Act → World → Prop) (round : ∀ i a w, I i a w → c.wp P (Exit.then (fun a' w' => ∃ j, m j < m i ∧ I j a' w') Q) a w) {i : ι} {a : Act} {w : World} (h : I i a w) : (Code.loop c).wp P Q a w := by
  classical
  let μ : Act → World → Nat := fun a w => if h : ∃ n, ∃ i, m i = n ∧ I i a w then (least h).choose else 0
  have hμ : ∀ {i a w}, I i a w → μ a w ≤ m i ∧ ∃ j, m j = μ a w ∧ I j a w := by
    intro i a w hi
    have hx : ∃ n, ∃ i, m i = n ∧ I i a w := ⟨m i, i, rfl, hi⟩
    simp only [μ, dif_pos hx]
    exact ⟨(least hx).choose_spec.2 _ ⟨i, rfl, hi⟩, (least hx).choose_spec.1⟩
  refine wp_loop (fun a w => ∃ i, I i a w) μ ⟨i, h⟩ fun a w ⟨i, hi⟩ => ?_
  obtain ⟨_, j, hj, hI⟩ := hμ hi
  refine wp_mono (round j a w hI) fun e a' w' hq => ?_
  cases e with
  | normal =>
    obtain ⟨k, hk, hk2⟩ := hq
    exact ⟨⟨k, hk2⟩, by have := (hμ hk2).1; omega⟩
  | _ => exact hq
theorem loop_wpIn {F : Fence} {n : Nat} {P : Program} {Q : Exit → Act → World → Prop} {c : Code} {ι : Type} (m : ι → Nat) (I : ι → Act → World → Prop) (round : ∀ i a w, I i a w → c.wpIn F n P (Exit.then (fun a' w' => ∃ j, m j < m i ∧ I j a' w') Q) a w) {i : ι} {a : Act} {w : World} (h : I i a w) : (Code.loop c).wpIn F n P Q a w := by
  classical
  let μ : Act → World → Nat := fun a w => if h : ∃ n, ∃ i, m i = n ∧ I i a w then (least h).choose else 0
  have hμ : ∀ {i a w}, I i a w → μ a w ≤ m i ∧ ∃ j, m j = μ a w ∧ I j a w := by
    intro i a w hi
    have hx : ∃ n, ∃ i, m i = n ∧ I i a w := ⟨m i, i, rfl, hi⟩
    simp only [μ, dif_pos hx]
    exact ⟨(least hx).choose_spec.2 _ ⟨i, rfl, hi⟩, (least hx).choose_spec.1⟩
  refine wpIn_loop (fun a w => ∃ i, I i a w) μ ⟨i, h⟩ fun a w ⟨i, hi⟩ => ?_
  obtain ⟨_, j, hj, hI⟩ := hμ hi
  refine wpIn_mono (round j a w hI) fun e a' w' hq => ?_
  cases e with
  | normal =>
    obtain ⟨k, hk, hk2⟩ := hq
    exact ⟨⟨k, hk2⟩, by have := (hμ hk2).1; omega⟩
  | _ => exact hq
theorem opIn_of_wp {ro : Option Nat} {n : Nat} {P : Program} {o : Oper} (hd : opDf o.op = false) {a : Act} {w : World} {next : Act → World → Prop} {Q : Exit → Act → World → Prop} (h : o.wp P a w next Q) : o.wpIn (fen ro) n P a w next Q := by
  refine ⟨fun _ _ => trivial, ?_⟩
  have e : o.semAt (fen ro).round a.eval = execOp a.eval o := Oper.semAt_eq _ _ _ (fun c hc => by rw [hc] at hd; cases hd)
  rw [e]
  unfold Oper.wp at h
  generalize (execOp a.eval o).run P w = res at h
  cases res with
  | ok nx w' =>
    cases nx with
    | value v => exact h
    | skip => exact h
    | defer d => exact h
    | enter f args => exact ⟨fun h => by simp [fen, Fence.wide] at h, by have := (callsIn_wide (n := n - 1)).2 h; exact this⟩
    | row row args => exact ⟨fun h => by simp [fen, Fence.wide] at h, fun c cs _ => let ⟨v, w', r, s⟩ := h c cs; ⟨v, w', r, stepsIn_wide.2 s⟩⟩
    | _ => exact h.elim
  | halt hh w' =>
    cases hh with
    | panic v => exact h
    | _ => exact h.elim
theorem W_soundIn (ok : CxOK cx) {ro : Option Nat} {n : Nat} {g : Nat} {q : Nat → Bool} {ops : Array Oper} {K : TT → HH → Prop} {KP : AV → TT → HH → Prop} {Q : Exit → Act → World → Prop}
    (hn : ∀ T' H' a' w' μ' F', K T' H' → SimX cx nt E T' H' a' w' μ' F' → Q .normal a' w')
    (hp : ∀ v T' H' a' w' μ' F' x, KP v T' H' → SimX cx nt E T' H' a' w' μ' F' → Rep w' μ' F' v x → Q (.panic [{ v := x, recovered := false }]) a' w') :
    ∀ (l : List Oper) (i : Nat) (T : TT) (H : HH), l.all (fun o => !opDf o.op) = true → W cx nt g q ops i l T H K KP → ∀ a w μ F, SimX cx nt E T H a w μ F → wpListIn (fen ro) n cx.P ops Q l a w
  | [], i, T, H, _, hk, a, w, μ, F, s => hn _ _ _ _ _ _ hk s
  | o :: l, i, T, H, hd, hk, a, w, μ, F, s => by
    rw [W_cons] at hk
    simp only [List.all_cons, Bool.and_eq_true, Bool.not_eq_true'] at hd
    refine wpListIn_step fun Kk hKk => ?_
    have := W1_sound ok hk s (next := Kk) (Q := Q) (fun T' H' a' w' μ' F' k s' => hKk _ _ (W_soundIn ok hn hp l (i + 1) T' H' (by simpa using hd.2) k a' w' μ' F' s')) (fun v T' H' w' μ' F' x k s' r => hp _ _ _ _ _ _ _ _ k s' r)
    split at this
    · rename_i hw; rw [if_pos hw]; exact opIn_of_wp hd.1 this
    · rename_i hw; rw [if_neg hw]; exact ⟨fun _ _ => trivial, this⟩
theorem WC_soundF (ok : CxOK cx) {n : Nat} : ∀ (c : Code) (ro : Option Nat) (_ : (ro = none ∧ (E.col = true ∨ noRF c = true)) ∨ noDf c = true) (g : Nat) (T : TT) (H : HH) (Q : AX → TT → HH → Prop), WC cx nt g c T H Q → ∀ a w μ F, SimX cx nt E T H a w μ F → c.wpIn (fen ro) n cx.P (Lift cx nt E Q) a w := by
  intro c
  induction c with
  | skip => exact fun ro _ g T H Q h a w μ F s => wpIn_skip ⟨_, _, _, _, _, h, s, .normal⟩
  | region id ops draw =>
    intro ro hE g T H Q h a w μ F s
    have go : ∀ {T H μ F}, SimX cx nt E T H a w μ F → (Facts T H → RW cx nt g ops draw T H Q) → (Code.region id ops draw).wpIn (fen ro) n cx.P (Lift cx nt E Q) a w := by
      intro T H μ F s h
      have h := h s.facts
      cases draw with
      | false =>
        rcases hE with ⟨rfl, _⟩ | hd
        · refine wpIn_wide.2 (wp_region_list (W_sound ok (fun T' H' a' w' μ' F' k s' => ⟨_, _, _, _, _, k, s', .normal⟩) (fun v T' H' a' w' μ' F' x k s' r => ⟨_, _, _, _, _, k, s', .panic r⟩) _ _ _ _ h _ _ _ _ s))
        · refine wpIn_region_list (W_soundIn ok (fun T' H' a' w' μ' F' k s' => ⟨_, _, _, _, _, k, s', .normal⟩) (fun v T' H' a' w' μ' F' x k s' r => ⟨_, _, _, _, _, k, s', .panic r⟩) _ _ _ _ hd h _ _ _ _ s)
      | true =>
        rcases hE with ⟨rfl, _⟩ | hd
        · refine wpIn_wide.2 ?_
          rcases h with ⟨q, ord, ho, h⟩ | h
          · exact WL_region ok ok.mixed ho h (fun T' H' a' w' μ' F' k s' => ⟨_, _, _, _, _, k, s', .normal⟩) (fun v H' a' w' μ' F' x k s' r => ⟨_, _, _, _, _, k, s', .panic r⟩) s.drew
          · exact WA_region ok ok.mixed h (fun T' H' a' w' μ' F' k s' => ⟨_, _, _, _, _, k, s', .normal⟩) s.drew
        · cases hd
    rcases h with h | ⟨TL, HL, hs, h⟩ | h
    · exact go s h
    · obtain ⟨μ', F', s'⟩ := s.sub hs
      exact go s' h
    · exact h.h _ _ _ _ _ _ _ s
  | seq x y ihx ihy =>
    intro ro hE g T H Q h a w μ F s
    have hx : (ro = none ∧ (E.col = true ∨ noRF x = true)) ∨ noDf x = true := hE.imp (fun h => ⟨h.1, h.2.imp id fun h => (Bool.and_eq_true_iff.1 h).1⟩) fun h => (Bool.and_eq_true_iff.1 h).1
    have hy : (ro = none ∧ (E.col = true ∨ noRF y = true)) ∨ noDf y = true := hE.imp (fun h => ⟨h.1, h.2.imp id fun h => (Bool.and_eq_true_iff.1 h).2⟩) fun h => (Bool.and_eq_true_iff.1 h).2
    refine wpIn_seq (wpIn_mono (ihx ro hx g T H _ h a w μ F s) fun e a' w' hq => ?_)
    obtain ⟨ae, T', H', μ', F', hk, s', hr⟩ := hq
    cases hr with
    | normal => exact ihy ro hy g _ _ _ hk _ _ _ _ s'
    | exit => exact ⟨_, _, _, _, _, hk, s', .exit⟩
    | goto => exact ⟨_, _, _, _, _, hk, s', .goto⟩
    | ret => exact ⟨_, _, _, _, _, hk, s', .ret⟩
    | panic r => exact ⟨_, _, _, _, _, hk, s', .panic r⟩
  | cond c x y ihx ihy =>
    intro ro hE g T H Q h a w μ F s
    have hx : (ro = none ∧ (E.col = true ∨ noRF x = true)) ∨ noDf x = true := hE.imp (fun h => ⟨h.1, h.2.imp id fun h => (Bool.and_eq_true_iff.1 h).1⟩) fun h => (Bool.and_eq_true_iff.1 h).1
    have hy : (ro = none ∧ (E.col = true ∨ noRF y = true)) ∨ noDf y = true := hE.imp (fun h => ⟨h.1, h.2.imp id fun h => (Bool.and_eq_true_iff.1 h).2⟩) fun h => (Bool.and_eq_true_iff.1 h).2
    simp only [WC] at h
    split at h
    rotate_left
    · exact h.elim
    rename_i t hv
    have hc := (Rep_lit (ev_sound s.g s.t hv)).1
    unfold Br at h
    refine wpIn_cond_split hc (fun ht => ?_) (fun ht => ?_)
    · subst ht; exact ihx ro hx g T H Q h a w μ F s
    · subst ht; exact ihy ro hy g T H Q h a w μ F s
  | block id c ih =>
    intro ro hE g T H Q h a w μ F s
    refine wpIn_block (wpIn_mono (ih ro hE g T H _ h a w μ F s) fun e a' w' hq => ?_)
    obtain ⟨ae, T', H', μ', F', hk, s', hr⟩ := hq
    cases hr with
    | normal => exact ⟨_, _, _, _, _, hk, s', .normal⟩
    | exit =>
      rename_i i
      simp only at hk
      show Exit.inBlock id _ (.exit i) a' w'
      simp only [Exit.inBlock]
      split at hk
      · rename_i hb
        rw [if_pos (Nat.eq_of_beq_eq_true hb)]
        exact ⟨_, _, _, _, _, hk, s', .normal⟩
      · rename_i hb
        rw [if_neg fun e => by subst e; simp at hb]
        exact ⟨_, _, _, _, _, hk, s', .exit⟩
    | goto => exact ⟨_, _, _, _, _, hk, s', .goto⟩
    | ret => exact ⟨_, _, _, _, _, hk, s', .ret⟩
    | panic r => exact ⟨_, _, _, _, _, hk, s', .panic r⟩
  | loop c ih =>
    intro ro hE g T H Q h a w μ F s
    obtain ⟨g', ι, S, m, ⟨i, hi⟩, h⟩ := h
    obtain ⟨μ', F', s'⟩ := s.sub hi
    refine loop_wpIn m (fun i a w => ∃ μ F, SimX cx nt E (ofL (S i).1) (ofH (S i).2) a w μ F) (fun i a w ⟨μ, F, s⟩ => ?_) (i := i) ⟨μ', F', s'⟩
    refine wpIn_mono (ih ro hE g' _ _ _ (h i) a w μ F s) fun e a' w' hq => ?_
    obtain ⟨ae, T', H', μ', F', hk, s', hr⟩ := hq
    cases hr with
    | normal =>
      obtain ⟨j, hj, hs⟩ := hk
      obtain ⟨μ2, F2, s2⟩ := s'.sub hs
      exact ⟨j, hj, μ2, F2, s2⟩
    | exit => exact ⟨_, _, _, _, _, hk, s', .exit⟩
    | goto => exact ⟨_, _, _, _, _, hk, s', .goto⟩
    | ret => exact ⟨_, _, _, _, _, hk, s', .ret⟩
    | panic r => exact ⟨_, _, _, _, _, hk, s', .panic r⟩
  | exit id => exact fun ro _ g T H Q h a w μ F s => wpIn_exit ⟨_, _, _, _, _, h, s, .exit⟩
  | label l => exact fun ro _ g T H Q h a w μ F s => wpIn_label ⟨_, _, _, _, _, h, s, .normal⟩
  | ret => exact fun ro _ g T H Q h a w μ F s => wpIn_ret ⟨_, _, _, _, _, h, s, .ret⟩
  | rangeFunc f ps x y =>
    intro ro hE g T H Q h a w μ F s
    rcases hE with ⟨rfl, hE⟩ | hE
    · exact wpIn_wide.2 (h.h _ _ _ _ _ (hE.resolve_right (by simp [noRF])) s)
    · cases hE
  | _ => intro ro _ g T H Q h; exact h.elim
theorem WC_sound (ok : CxOK cx) (c : Code) (hE : E.col = true ∨ noRF c = true) (g : Nat) (T : TT) (H : HH) (Q : AX → TT → HH → Prop) (h : WC cx nt g c T H Q) (a : Act) (w : World) (μ : Id → Option Loc) (F : Nat → Prop) (s : SimX cx nt E T H a w μ F) : c.wp cx.P (Lift cx nt E Q) a w :=
  (wpIn_wide (n := 0)).1 (WC_soundF ok c none (.inl ⟨rfl, hE⟩) g T H Q h a w μ F s)
end
end Go.Eng
/- A function that only computes, from what its code does. -/
namespace Go.Eng
def resE (cx : Cx) (T : TT) (H : HH) : List ResultVar → (List AV → Prop) → Prop
  | [], k => k []
  | .tmp t :: l, k => match T t with | some v => resE cx T H l fun vs => k (v :: vs) | none => False
  | .cell a t :: l, k => match T a with | some p => loadK cx t H (fun v => resE cx T H l fun vs => k (v :: vs)) p | none => False
def oneOf : List AV → AV | [v] => v | l => .tup l
/-- What the function answers at its end. -/
def endK (cx : Cx) (fn : Func) (K KP : AV → HH → Prop) : AX → TT → HH → Prop
  | .normal, T, H => resE cx T H fn.results.toList fun l => K (oneOf l) H
  | .ret, T, H => resE cx T H fn.results.toList fun l => K (oneOf l) H
  | .panic v, _, H => KP v H
  | _, _, _ => False
def argT : Nat → List AV → TT
  | _, [] => TT.emp
  | n, v :: l => (argT (n + 1) l).put n v
section
variable {cx : Cx} {w : World} {μ : Id → Option Loc} {F : Nat → Prop} {H : HH}
def rvRun (tmps : Array Value) : ResultVar → Sem Value
  | .tmp t => pure (tmps.getD t undef)
  | .cell p t => do loadVar t (← asAddr (tmps.getD p undef))
theorem resE_sound (ok : CxOK cx) (h : HRep w μ F H) (hg : GOK cx w F) {T : TT} {a : Act} (hT : TOKs w μ F T a) : ∀ (l : List ResultVar) (k : List AV → Prop), resE cx T H l k →
    ∃ avs vs, k avs ∧ All2 (Rep w μ F) avs vs ∧ (l.mapM (rvRun a.tmps)).run cx.P w = Result.ok vs w
  | [], k, h => ⟨[], [], h, .nil, rfl⟩
  | .tmp t :: l, k, hk => by
    unfold resE at hk
    split at hk
    · rename_i v hv
      obtain ⟨avs, vs, h1, h2, h3⟩ := resE_sound ok h hg hT l _ hk
      refine ⟨_, _, h1, .cons (hT t v hv) h2, ?_⟩
      simp only [List.mapM_cons, rvRun, Sem.run_bind, Sem.run_pure, Result.andThen_ok, h3]
    · exact hk.elim
  | .cell p t :: l, k, hk => by
    unfold resE at hk
    split at hk
    · rename_i v hv
      obtain ⟨x, av, h1, h2, h3⟩ := loadK_sound ok h hk (hT p v hv)
      obtain ⟨avs, vs, h4, h5, h6⟩ := resE_sound ok h hg hT l _ h2
      refine ⟨_, _, h4, .cons h3 h5, ?_⟩
      obtain ⟨y, hy⟩ : ∃ y, a.tmps.getD p undef = .pointer (some y) := by
        generalize a.tmps.getD p undef = z at h1
        unfold Instr.loadAt Instr.sureAddr at h1
        split at h1
        · exact ⟨_, rfl⟩
        · first | (simp [stuck] at h1; done) | skip
      rw [hy] at h1
      simp only [Instr.loadAt, Instr.sureAddr, Sem.run_bind, Sem.run_pure, Result.andThen_ok] at h1
      simp only [List.mapM_cons, rvRun, hy, asAddr, Sem.run_bind, Sem.run_pure, Result.andThen_ok, h1, h6]
    · exact hk.elim
theorem results_eq {fn : Func} {tmps : Array Value} {P : Program} {w : World} {vs : List Value} (h : (fn.results.toList.mapM (rvRun tmps)).run P w = .ok vs w) :
    (results fn tmps).run P w = .ok (match vs with | [v] => v | l => .tuple ⟨l⟩) w := by
  have he : results fn tmps = (do let vs ← fn.results.mapM (rvRun tmps); pure (if h : vs.size = 1 then vs[0] else .tuple vs)) := by
    unfold results
    have : ∀ (f g : ResultVar → Sem Value), (∀ x, f x = g x) → ∀ (k : Array Value → Sem Value), (fn.results.mapM f >>= k) = (fn.results.mapM g >>= k) := by
      intro f g hfg k
      rw [funext hfg]
    exact this _ _ (fun x => by cases x <;> rfl) _
  rw [he, Array.mapM_eq_mapM_toList]
  have hm : (List.toArray <$> List.mapM (rvRun tmps) fn.results.toList).run P w = .ok vs.toArray w := by
    rw [← bind_pure_comp]
    simp only [Sem.run_bind, h, Result.andThen_ok, Function.comp, Sem.run_pure]
  rw [Sem.run_bind, hm]
  simp only [Result.andThen_ok, Sem.run_pure]
  match vs with
  | [] => rfl
  | [v] => rfl
  | v :: u :: l => simp
theorem EndK_ret (ok : CxOK cx) {fn : Func} {nt : Nat} {E : Entry} {T : TT} {a : Act} {K : AV → HH → Prop} (s : SimX cx nt E T H a w μ F) (hk : resE cx T H fn.results.toList fun l => K (oneOf l) H) :
    ∃ v av, (results fn a.tmps).run cx.P w = .ok v w ∧ K av H ∧ Rep w μ F av v := by
  obtain ⟨avs, vs, h1, h2, h3⟩ := resE_sound ok s.h s.g s.t _ _ hk
  refine ⟨_, _, results_eq h3, h1, ?_⟩
  cases h2 with
  | nil => exact .tup rfl (by simp)
  | cons h h2 =>
    cases h2 with
    | nil => exact h
    | cons h' h2 =>
      have hl := (All2.cons h (All2.cons h' h2))
      exact .tup hl.length fun i hi hi' => hl.get i hi hi'
theorem argT_get : ∀ (l : List AV) (n t : Nat) (av : AV), argT n l t = some av → ∃ i, t = n + i ∧ l[i]? = some av
  | [], n, t, av, h => by cases h
  | v :: l, n, t, av, h => by
    simp only [argT] at h
    by_cases e : t = n
    · subst e; rw [TT.put_same] at h; cases h; exact ⟨0, rfl, rfl⟩
    · rw [TT.put_ne _ _ e] at h
      obtain ⟨i, rfl, hi⟩ := argT_get l (n + 1) t av h
      exact ⟨i + 1, by omega, hi⟩
/-- A function entered with these arguments. -/
theorem entry_sim (mk : Bool := false) {args : List AV} {vs : List Value} {nt : Nat} (h : HRep w μ F H) (hg : GOK cx w F) (ha : All2 (Rep w μ F) args vs) (hn : args.length ≤ nt) :
    SimX cx nt ⟨w, μ, F, H, [], mk⟩ (argT 0 args) H { tmps := ⟨vs⟩ ++ Array.replicate (nt - (⟨vs⟩ : Array Value).size) undef, defers := [] } w μ F := by
  have hl := ha.length
  refine ⟨h, hg, fun t av ht => ?_, fun t av ht => ?_, ?_, .none, ⟨rfl, rfl, rfl, Nat.le_refl _, fun _ _ _ => rfl, fun _ _ _ h => h, fun _ h => h, fun _ h => .inl h, fun _ h => .inr h⟩⟩
  · obtain ⟨i, rfl, hi⟩ := argT_get _ _ _ _ ht
    obtain ⟨hi1, rfl⟩ := List.getElem?_eq_some_iff.1 hi
    have := ha.get i hi1 (by omega)
    simp only [Nat.zero_add]
    rw [Array.getD_eq_getD_getElem?, Array.getElem?_append_left (by simp; omega)]
    simpa [show i < vs.length by omega] using this
  · obtain ⟨i, rfl, hi⟩ := argT_get _ _ _ _ ht
    obtain ⟨hi1, _⟩ := List.getElem?_eq_some_iff.1 hi
    omega
  · simp; omega
theorem HRep.keepLv {w w' : World} {μ : Id → Option Loc} {F : Nat → Prop} {H : HH} (h : HRep w μ F H) (hs : w.heap.size ≤ w'.heap.size) (hf : ∀ b, F b → w'.heap[b]? = w.heap[b]?) (hk : ∀ b, Lv μ H b → w'.heap[b]? = w.heap[b]?) : HRep w' μ F H where
  rows := fun r row hr => by
    obtain ⟨l, hl, hrow⟩ := h.rows r row hr
    exact ⟨l, hl, hrow.mono (fun hlv b hb => hk b ⟨r, row, l, hr, hlv, hl, hb⟩) hf (fun _ h => h) (fun _ _ h => h)⟩
  dom := h.dom
  inj := h.inj
  disj := h.disj
  lt := fun b hb => Nat.lt_of_lt_of_le (h.lt b hb) hs
/-- A world in which a mark is shut. -/
theorem SimX.shut {cx : Cx} {nt : Nat} {E : Entry} {T : TT} {H : HH} {a : Act} {w : World} {μ : Id → Option Loc} {F : Nat → Prop} (s : SimX cx nt E T H a w μ F) {D : Nat} {Ds : List Nat} (hd : a.defers = (D :: Ds).map colD ++ E.ds) (hmk : E.col = true) (hn : (D :: Ds).Nodup) (h : ∀ D', D' ∈ D :: Ds → E.w.heap.size ≤ D' ∧ D' < w.heap.size ∧ ¬ F D' ∧ ¬ Lv μ H D' ∧ w.heap[D']? = some (.deferred (some []))) :
    SimX cx nt E T H { a with defers := Ds.map colD ++ E.ds } (w.putObj D (.deferred none)) μ F ∧ (Instr.takeDeferred D).run cx.P w = .ok [] (w.putObj D (.deferred none)) ∧
      ∀ D', D' ∈ Ds → E.w.heap.size ≤ D' ∧ D' < (w.putObj D (.deferred none)).heap.size ∧ ¬ F D' ∧ ¬ Lv μ H D' ∧ (w.putObj D (.deferred none)).heap[D']? = some (.deferred (some [])) := by
  obtain ⟨h1, h2, h3, h4, h5⟩ := h D (by simp)
  have hsz : (w.putObj D (.deferred none)).heap.size = w.heap.size := by simp [World.putObj]
  have hk : ∀ b, b ≠ D → (w.putObj D (.deferred none)).heap[b]? = w.heap[b]? := fun b hb => World.putObj_heap_other hb
  have hne : ∀ D', D' ∈ Ds → D' ≠ D := fun D' hD' e => by subst e; exact (List.nodup_cons.1 hn).1 hD'
  have hrest : ∀ D', D' ∈ Ds → E.w.heap.size ≤ D' ∧ D' < (w.putObj D (.deferred none)).heap.size ∧ ¬ F D' ∧ ¬ Lv μ H D' ∧ (w.putObj D (.deferred none)).heap[D']? = some (.deferred (some [])) := fun D' hD' => by
    obtain ⟨g1, g2, g3, g4, g5⟩ := h D' (by simp [hD'])
    exact ⟨g1, by rw [hsz]; exact g2, g3, g4, (hk D' (hne D' hD')).trans g5⟩
  have kf : ∀ b, F b → (w.putObj D (.deferred none)).heap[b]? = w.heap[b]? := fun b hb => hk b fun e => h3 (e ▸ hb)
  have kl : ∀ b, Lv μ H b → (w.putObj D (.deferred none)).heap[b]? = w.heap[b]? := fun b hb => hk b fun e => h4 (e ▸ hb)
  refine ⟨⟨s.h.keepLv (by rw [hsz]; exact Nat.le_refl _) kf kl, s.g.mono kf (fun _ h => h), fun t av ht => (s.t t av ht).mono kf (fun _ h => h) (fun _ _ h => h), s.b, s.n, ⟨fun e => (by rw [hmk] at e; cases e), Ds, rfl, (List.nodup_cons.1 hn).2, hrest⟩, ?_⟩, run_takeDeferred h5, hrest⟩
  exact ⟨s.f.os, s.f.tape, s.f.output, by rw [hsz]; exact s.f.size, fun b hb hl => (hk b (by omega)).trans (s.f.keep b hb hl), s.f.mu, s.f.fr, s.f.fr', s.f.lv⟩
theorem leavesM_ret (ok : CxOK cx) {fn : Func} {nt : Nat} {E : Entry} {T : TT} {H' : HH} {a : Act} {w' : World} {μ' : Id → Option Loc} {F' : Nat → Prop} {K KP : AV → HH → Prop} (s : SimX cx nt E T H' a w' μ' F') (hk : resE cx T H' fn.results.toList fun l => K (oneOf l) H') (hE : E.ds = [] := by rfl) (hmk : E.col = true := by rfl) :
    LeavesInM Fence.wide 0 cx.P fn a.tmps (fun e w' => ∃ o H' μ' F', (match o with | .ret v => K v H' | .pan v => KP v H') ∧ EndR w' μ' F' o e ∧ HRep w' μ' F' H' ∧ GOK cx w' F' ∧ FrB E.w E.μ E.F E.H w' μ' F' H') a.defers .returning w' := by
  obtain ⟨Ds, h1, h2, h3⟩ := s.d.m
  induction Ds generalizing a w' with
  | nil =>
    rw [hE] at h1
    rw [h1]
    obtain ⟨v, av, g1, g2, g3⟩ := EndK_ret ok s hk
    exact ⟨v, g1, .ret av, H', μ', F', g2, .ret g3, s.h, s.g, s.f⟩
  | cons D Ds ih =>
    obtain ⟨s', ht, hr⟩ := s.shut h1 hmk h2 h3
    rw [h1]
    refine ⟨by simp, .inl ⟨D, _, rfl, ht, ?_⟩⟩
    exact ih s' rfl (List.nodup_cons.1 h2).2 hr
theorem leavesM_pan {fn : Func} {nt : Nat} {E : Entry} {T : TT} {H' : HH} {a : Act} {w' : World} {μ' : Id → Option Loc} {F' : Nat → Prop} {K KP : AV → HH → Prop} {v : AV} {x : Value} (s : SimX cx nt E T H' a w' μ' F') (hk : KP v H') (hr : Rep w' μ' F' v x) (hE : E.ds = [] := by rfl) (hmk : E.col = true := by rfl) :
    LeavesInM Fence.wide 0 cx.P fn a.tmps (fun e w' => ∃ o H' μ' F', (match o with | .ret v => K v H' | .pan v => KP v H') ∧ EndR w' μ' F' o e ∧ HRep w' μ' F' H' ∧ GOK cx w' F' ∧ FrB E.w E.μ E.F E.H w' μ' F' H') a.defers (.panicking [{ v := x, recovered := false }]) w' := by
  obtain ⟨Ds, h1, h2, h3⟩ := s.d.m
  induction Ds generalizing a w' with
  | nil =>
    rw [hE] at h1
    rw [h1]
    exact ⟨.pan _, H', μ', F', hk, .pan hr, s.h, s.g, s.f⟩
  | cons D Ds ih =>
    obtain ⟨s', ht, hq⟩ := s.shut h1 hmk h2 h3
    rw [h1]
    refine ⟨by simp, .inl ⟨D, _, rfl, ht, ?_⟩⟩
    exact ih s' (hr.mono (fun b hb => World.putObj_heap_other fun e => (h3 D (by simp)).2.2.1 (by rw [← e]; exact hb)) (fun _ h => h) (fun _ _ h => h)) rfl (List.nodup_cons.1 h2).2 hq
/-- A function by what its code does. -/
theorem body_sound (ok : CxOK cx) {f : FuncId} {fn : Func} {c : Code} (hf : cx.P.funcs[f]? = some fn) (hb : fn.body = some c) (hcall : ∀ (vs : Array Value) (w : World), (callFunc f vs).run cx.P w = .ok (.enter f vs) w)
    {args : List AV} {vs : List Value} {g : Nat} (hn : args.length ≤ fn.ntmps) {K KP : AV → HH → Prop} (hk : WC cx fn.ntmps g c (argT 0 args) H (endK cx fn K KP)) (h : HRep w μ F H) (hg : GOK cx w F) (ha : All2 (Rep w μ F) args vs) :
    CallsX cx.P f vs w fun e w' => ∃ o H' μ' F', (match o with | .ret v => K v H' | .pan v => KP v H') ∧ EndR w' μ' F' o e ∧ HRep w' μ' F' H' ∧ GOK cx w' F' ∧ FrB w μ F H w' μ' F' H' := by
  unfold CallsX
  rw [hcall]
  refine callsIn_wide.1 (callsIn_of_wp_marks (n := 0) hf hb trivial (wpIn_wide.2 (wp_mono (WC_sound ok c (.inl rfl) g _ _ _ hk _ _ _ _ (entry_sim true h hg ha hn)) fun e a' w' hq => ?_)) rfl)
  obtain ⟨ae, T', H', μ', F', hk, s, hr⟩ := hq
  cases hr with
  | normal => exact leavesM_ret ok s hk
  | ret => exact leavesM_ret ok s hk
  | panic r => exact leavesM_pan s hk r
  | exit => exact hk.elim
  | goto => exact hk.elim
end
def retP (o : Out) (v : AV) (H : HH) : Prop := match o with | .ret u => Ent H v u | .pan _ => False
def panP (o : Out) (v : AV) (H : HH) : Prop := match o with | .ret _ => False | .pan u => Ent H v u
theorem All2.imp {α β : Type} {Q Q' : α → β → Prop} (hq : ∀ a b, Q a b → Q' a b) {l : List α} {m : List β} (h : All2 Q l m) : All2 Q' l m := by
  induction h with
  | nil => exact .nil
  | cons h _ ih => exact .cons (hq _ _ h) ih
theorem HRep.emp {w : World} {F : Nat → Prop} (h : ∀ b, F b → b < w.heap.size) : HRep w (fun _ => none) F HH.emp := by
  refine ⟨fun _ _ h => ?_, fun _ _ => rfl, fun _ _ _ _ _ _ _ h => ?_, fun _ _ _ _ h => ?_, h⟩ <;> simp [HH.emp] at h
/-- A function that only computes, by what its code does. -/
theorem PSpec.of_WC {cx : Cx} (ok : CxOK cx) {f : FuncId} {fn : Func} {c : Code} (hf : cx.P.funcs[f]? = some fn) (hb : fn.body = some c) (hcall : ∀ (vs : Array Value) (w : World), (callFunc f vs).run cx.P w = .ok (.enter f vs) w)
    {args : List AV} {g : Nat} (hn : args.length ≤ fn.ntmps) {o : Out} (hk : WC cx fn.ntmps g c (argT 0 args) HH.emp (endK cx fn (retP o) (panP o))) :
    PSpec cx f args o := by
  intro w F vs hF hG ha
  have h0 := HRep.emp (w := w) hF
  have ha' : All2 (Rep w (fun _ => none) F) args vs := ha.imp fun _ _ h => .frz h
  have hc := body_sound ok hf hb hcall hn hk h0 hG ha'
  have fin : ∀ (e : Ending) (w' : World), (∃ o' H' μ' F', (match o' with | .ret v => retP o v H' | .pan v => panP o v H') ∧ EndR w' μ' F' o' e ∧ HRep w' μ' F' H' ∧ GOK cx w' F' ∧ FrB w (fun _ => none) F HH.emp w' μ' F' H') → ∃ F', EndF w' F' o e ∧ FrF w F w' F' := by
    rintro e w' ⟨o', H', μ', F', h1, h2, h3, h4, h5⟩
    have nl : ∀ b, ¬ Lv (fun _ => none) HH.emp b := fun b ⟨r, row, l, h, _⟩ => by cases h
    refine ⟨fun b => F' b ∨ Lv μ' H' b, ?_, h5.os, h5.tape, h5.output, h5.size, fun b hb => h5.keep b hb (nl b), fun b hb => ?_, fun b hb => hb.elim (h3.lt b) h3.row_lt⟩
    · cases h2 with
      | ret hr =>
        cases o with
        | ret u => exact .ret (h1 _ _ _ _ h3 hr)
        | pan u => exact h1.elim
      | pan hr =>
        cases o with
        | ret u => exact h1.elim
        | pan u => exact .pan (h1 _ _ _ _ h3 hr)
    · rcases hb with hb | hb
      · exact (h5.fr' b hb).elim .inl fun h => h.elim .inr fun h => absurd h (nl b)
      · exact (h5.lv b hb).elim .inr fun h => absurd h (nl b)
  unfold CallsX at hc ⊢
  split at hc
  · exact hc.mono fun e w' h => fin e w' h
  · exact fin _ _ hc
  · exact hc.mono fun v w' h => fin _ _ h
  · exact fin _ _ hc
  · exact hc.elim
end Go.Eng
/- The table of types, computed from the program's. -/
namespace Go.Eng
def offsOf (P : Program) : List Field → Option (List (Nat × Nat))
  | [] => some []
  | f :: l => match P.info? f.type with
    | some i => match i.size with
      | 0 => none
      | n + 1 => match offsOf P l with | some r => some ((f.offset, n + 1) :: r) | none => none
    | none => none
def tdOf (P : Program) : TypeDesc → Option TD
  | .int k => some (.int k)
  | .bool => some .bool
  | .string => some .string
  | .slice e => some (.slice e)
  | .struct fs => match offsOf P fs.toList with | some o => some (.struct o) | none => none
  | .pointer e => some (.ptr e)
  | .interface _ => some .iface
  | .map k e => some (.map k e)
  | .func _ _ _ => some .func
  | .chan _ _ => some .other
  | _ => none
def zerosOf : List Value → Option (List AV)
  | [] => some []
  | v :: l => match constAV v, zerosOf l with | some a, some r => (match v.oneCell' with | true => some (a :: r) | false => none) | _, _ => none
def isAggV : Value → Bool | .agg _ => true | _ => false
def tiOf (P : Program) (t : TypeId) : Option TI :=
  match P.info? t, P.underlying t with
  | some i, some d => match tdOf P d, i.zero with
    | some td, some z => match zerosOf z.cells.toList with
      | some zs => match Nat.beq zs.length i.size, Nat.ble i.bytes R, isAggT td == isAggV z, isAggT td || z.oneCell' with
        | true, true, true, true => some ⟨td, i.size, i.bytes, zs⟩
        | _, _, _, _ => none
      | none => none
    | _, _ => none
  | _, _ => none
theorem zerosOf_ok {w : World} {F : Nat → Prop} : ∀ {l : List Value} {zs : List AV}, zerosOf l = some zs → All2 (RepF w F) zs l ∧ ∀ v, v ∈ l → v.oneCell' = true
  | [], zs, h => by cases h; exact ⟨.nil, by simp⟩
  | v :: l, zs, h => by
    unfold zerosOf at h
    split at h
    · rename_i a r ha hr
      split at h
      · rename_i h1
        cases h
        obtain ⟨h2, h3⟩ := zerosOf_ok hr
        exact ⟨.cons (constAV_rep ha) h2, fun u hu => (List.mem_cons.1 hu).elim (fun e => e ▸ h1) (h3 u)⟩
      · cases h
    · cases h
theorem offsOf_ok {P : Program} : ∀ {l : List Field} {o : List (Nat × Nat)}, offsOf P l = some o → All2 (fun (o : Nat × Nat) (f : Field) => o.1 = f.offset ∧ o.2 ≠ 0 ∧ ∃ i, P.info? f.type = some i ∧ i.size = o.2) o l
  | [], o, h => by cases h; exact .nil
  | f :: l, o, h => by
    unfold offsOf at h
    split at h
    · rename_i i hi
      split at h
      · cases h
      · rename_i n hn
        split at h
        · rename_i r hr
          cases h
          exact .cons ⟨rfl, by simp, i, hi, hn⟩ (offsOf_ok hr)
        · cases h
    · cases h
theorem tiOf_ok {P : Program} {t : TypeId} {ti : TI} (h : tiOf P t = some ti) : TOK P t ti := by
  unfold tiOf at h
  split at h
  rotate_left
  · cases h
  rename_i i d hi hd
  split at h
  rotate_left
  · cases h
  rename_i td z htd hz
  split at h
  rotate_left
  · cases h
  rename_i zs hzs
  split at h
  rotate_left
  · cases h
  rename_i h1 h2 h3 h4
  cases h
  refine ⟨i, d, z, hi, hd, rfl, rfl, ?_, hz, ?_, Nat.eq_of_beq_eq_true h1, fun w F => (zerosOf_ok hzs).1, (zerosOf_ok (w := default) (F := fun _ => True) hzs).2, Nat.le_of_ble_eq_true h2⟩
  · unfold tdOf at htd
    split at htd
    · cases htd; rfl
    · cases htd; rfl
    · cases htd; rfl
    · cases htd; rfl
    · split at htd
      · rename_i ho; cases htd; exact ⟨_, rfl, offsOf_ok ho⟩
      · cases htd
    · cases htd; rfl
    · cases htd; exact ⟨_, rfl⟩
    · cases htd; rfl
    · cases htd; exact ⟨_, _, _, rfl⟩
    · cases htd; exact ⟨rfl, fun ms h => by cases h⟩
    · cases htd
  · simp only
    cases hx : isAggT td with
    | true =>
      rw [hx] at h3
      have : isAggV z = true := by simpa using h3
      cases z <;> simp [isAggV] at this
      exact ⟨_, rfl⟩
    | false =>
      rw [hx] at h4
      simpa using h4
/-- A method with a value for its receiver. -/
def methOf (P : Program) (t : TypeId) (name : String) : Option FuncId :=
  match P.info? t, P.underlying t with
  | some i, some d => match i.methods.find? (·.name == name) with
    | some m => match m.path.isEmpty, m.func with
      | true, some (f, false) => (match d with | .pointer _ => none | _ => some f)
      | _, _ => none
    | none => none
  | _, _ => none
theorem methOf_ok {P : Program} {t : TypeId} {name : String} {f : FuncId} (h : methOf P t name = some f) : ∀ (v : Value) (w : World), (method (P.types.size + Made.depth) t v name).run P w = .ok (f, v) w := by
  intro v w
  obtain ⟨n, hn⟩ : ∃ n, P.types.size + Made.depth = n + 1 := ⟨P.types.size + (Made.depth - 1), by unfold Made.depth; rfl⟩
  rw [hn]
  unfold methOf at h
  split at h
  rotate_left
  · cases h
  rename_i i d hi hd
  split at h
  rotate_left
  · cases h
  rename_i m hm
  split at h
  rotate_left
  · cases h
  rename_i f' hp hf
  have hpath : m.path = #[] := by simpa using hp
  have hdd : (∀ e, d ≠ .pointer e) ∧ f' = f := by
    split at h
    · cases h
    · rename_i hne
      exact ⟨fun e he => hne e he, by simpa using h⟩
  obtain ⟨hne, rfl⟩ := hdd
  simp only [method, typeInfo, Sem.run_bind, run_program, Result.andThen_ok, hi, Sem.run_pure, hm, hpath, follow, hf, receiverAt, run_underlying hd]
  cases d <;> first | exact absurd rfl (hne _) | rfl
/-- A table, as a tree. -/
inductive Tr (α : Type) where
  | leaf
  | node (k : Nat) (v : α) (l r : Tr α)
def Tr.get {α : Type} (n : Nat) : Tr α → Option α
  | .leaf => none
  | .node k v l r => match Nat.beq n k with
    | true => some v
    | false => match Nat.blt n k with | true => l.get n | false => r.get n
def Tr.All {α : Type} (p : Nat → α → Prop) : Tr α → Prop
  | .leaf => True
  | .node k v l r => p k v ∧ l.All p ∧ r.All p
theorem Tr.All.get {α : Type} {p : Nat → α → Prop} : ∀ {t : Tr α} {n : Nat} {v : α}, t.All p → t.get n = some v → p n v
  | .leaf, n, v, _, h => by cases h
  | .node k u l r, n, v, ha, h => by
    unfold Tr.get at h
    split at h
    · rename_i hb
      cases h
      rw [Nat.eq_of_beq_eq_true hb]
      exact ha.1
    · split at h
      · exact Tr.All.get ha.2.1 h
      · exact Tr.All.get ha.2.2 h
end Go.Eng
/- A state seen another way: a check, and its soundness. -/
namespace Go.Eng
inductive Src where
  | old (each : Bool) (r : Id)
  | new (sz bs : Nat)
def look : List (Id × Src) → Id → Option Src
  | [], _ => none
  | (k, s) :: l, r => match ideq r k with | true => some s | false => look l r
def named (ρ : List (Id × Src)) (r r' : Id) (X : Prop) : Prop := match look ρ r' with
  | some (.old _ q) => match ideq r q with | true => X | false => False
  | _ => False
def isOld (r : Id) : Src → Bool | .old _ q => ideq q r | .new .. => false
def dropped (ρ : List (Id × Src)) (r : Id) : Bool := match ρ with
  | [] => true
  | (_, s) :: l => match isOld r s with | true => false | false => dropped l r
/-- One frozen slice as another. -/
def fslLe (c : Option Nat) (sz bs n : Nat) (el : Nat → List AV) : AV → Prop
  | .fsl c' sz' bs' n' el' => (∀ m, c' = some m → c = some m) ∧ n = n' ∧ (n = 0 ∨ (sz = sz' ∧ bs = bs' ∧ ∀ i, i < n → el i = el' i))
  | _ => False
def litLe : Value → Value → Prop
  | .int k x, .int k' y => k = k' ∧ x = y
  | .string x, .string y => x = y
  | .bool x, .bool y => x = y
  | v, v' => v = v'
/-- What names no row, as something else. -/
def leF : AV → AV → Prop
  | .lit v, .lit v' => litLe v v'
  | .lz d, .lz d' => d = d'
  | .lz d, .fsl c' sz' bs' n' el' => match d.unf with | .fsl c sz bs n el => fslLe c sz bs n el (.fsl c' sz' bs' n' el') | _ => False
  | .fsl c sz bs n el, .lz d => fslLe c sz bs n el d.unf
  | .fsl c sz bs n el, b => fslLe c sz bs n el b
  | .fptr sz n el i j, b => .fptr sz n el i j = b
  | .top, .top => True
  | .lit (.int _ _), .top => True
  | .lit (.bool _), .top => True
  | .lit (.string _), .top => True
  | _, _ => False
/-- A row of its own as a slice that nobody writes. -/
def frzLe (sz bs : Nat) (es : List (List AV)) (o n : Nat) (c : Option Nat) : AV → Prop
  | .fsl c' sz' bs' n' el' => sz = sz' ∧ bs = bs' ∧ n = n' ∧ (∀ m, c' = some m → c = some m) ∧ o + n ≤ es.length ∧ ∀ i, i < n → es.getD (o + i) [] = el' i ∧ idfL (el' i) = true
  | _ => False
def leRow (fz : Id → Bool) (ρ : List (Id × Src)) (H : HH) (r : Id) (o n : Nat) (c : Option Nat) : AV → Prop
  | .row r' o' n' c' => named ρ r r' (o = o' ∧ n = n' ∧ c = c')
  | .lz d => match H r with | some (.cells sz bs es) => (match fz r with | true => frzLe sz bs es o n c d.unf | false => False) | _ => False
  | .fsl c' sz' bs' n' el' => match H r with | some (.cells sz bs es) => (match fz r with | true => frzLe sz bs es o n c (.fsl c' sz' bs' n' el') | false => False) | _ => False
  | _ => False
def leK (fz : Id → Bool) (ρ : List (Id × Src)) (H : HH) : AV → AV → Prop
  | .row r o n c, b => leRow fz ρ H r o n c b
  | .ptr r i j, b => match b with | .ptr r' i' j' => named ρ r r' (i = i' ∧ j = j') | _ => False
  | .mref r, b => match b with | .mref r' => named ρ r r' True | _ => False
  | .agg l, b => match b with | .agg m => leL l m | _ => False
  | .tup l, b => match b with | .tup m => leL l m | _ => False
  | .ifc t v, b => match b with | .ifc t' v' => t = t' ∧ leK fz ρ H v v' | _ => False
  | .clo fn x y, b => match b with | .clo fn' x' y' => fn = fn' ∧ leL x x' ∧ leL y y' | _ => False
  | .fsl c sz bs n el, b => match b with
    | .row r' o' n' c' => match look ρ r' with | some (.new _ _) => (c = some 0 ∧ n = 0) ∧ (o' = 0 ∧ n' = 0 ∧ c' = none) | _ => False
    | b => leF (.fsl c sz bs n el) b
  | .lit v, b => leF (.lit v) b
  | .top, b => leF .top b
  | .fptr sz n el i j, b => leF (.fptr sz n el i j) b
  | .lz d, b => leF (.lz d) b
where leL : List AV → List AV → Prop
  | [], m => match m with | [] => True | _ :: _ => False
  | a :: l, m => match m with | [] => False | b :: m => leK fz ρ H a b ∧ leL l m
def leLL (fz : Id → Bool) (ρ : List (Id × Src)) (H : HH) : List (List AV) → List (List AV) → Prop
  | [], m => match m with | [] => True | _ :: _ => False
  | a :: l, m => match m with | [] => False | b :: m => leK.leL fz ρ H a b ∧ leLL fz ρ H l m
def rowLe (fz : Id → Bool) (ρ : List (Id × Src)) (H : HH) (each : Bool) : Row → Row → Prop
  | .cells sz bs es, b => match b with
    | .cells sz' bs' es' => (sz = sz' ∧ bs = bs') ∧ (match each with | true => leLL fz ρ H es es' | false => es = es' ∧ ∀ e, e ∈ es' → idfL e = true)
    | .dead => True
    | _ => False
  | .map kv, b => match b with
    | .map kv' => kv = kv' ∧ ∀ p, p ∈ kv' → idf p.1 = true ∧ idf p.2 = true
    | .dead => True
    | _ => False
  | .iter s p, b => match b with
    | .iter s' p' => s = s' ∧ p = p'
    | .dead => True
    | _ => False
  | .dead, b => match b with | .dead => True | _ => False
def tempsK (fz : Id → Bool) (ρ : List (Id × Src)) (T : TT) (H : HH) : List (Nat × AV) → Prop
  | [] => True
  | (t, b) :: l => (match T t with | some a => leK fz ρ H a b | none => False) ∧ tempsK fz ρ T H l
def rowsK (fz : Id → Bool) (ρ : List (Id × Src)) (H : HH) : List (Id × Row) → Prop
  | [] => True
  | (r, b) :: l => (match look ρ r with
    | some (.old e q) => (match H q with | some a => rowLe fz ρ H e a b | none => False)
    | some (.new sz bs) => (match b with | .cells sz' bs' [] => sz = sz' ∧ bs = bs' | _ => False)
    | none => False) ∧ rowsK fz ρ H l
def keysIn (HL : List (Id × Row)) : List (Id × Src) → Bool
  | [] => true
  | (k, _) :: l => HL.any (fun p => ideq p.1 k) && keysIn HL l
def olds : List (Id × Src) → Bool
  | [] => true
  | (_, .old _ q) :: l => dropped l q && olds l
  | (_, .new ..) :: l => olds l
/-- The names of generation 0 stay. -/
def Gen0 (ρ : List (Id × Src)) (H : HH) : Prop := ∀ r, r.1 = 0 → H r ≠ none → ∃ e, look ρ r = some (.old e r)
def subK (ρ : List (Id × Src)) (T : TT) (H : HH) (TL : List (Nat × AV)) (HL : List (Id × Row)) : Prop :=
  match keysIn HL ρ, olds ρ with
  | true, true => tempsK (dropped ρ) ρ T H TL ∧ rowsK (dropped ρ) ρ H HL
  | _, _ => False
end Go.Eng
/- The check of a state seen another way is sound. -/
namespace Go.Eng
section
variable {fz : Id → Bool} {ρ : List (Id × Src)} {w : World} {μ : Id → Option Loc} {F : Nat → Prop} {H : HH}
def muOf (ρ : List (Id × Src)) (μ : Id → Option Loc) (r : Id) : Option Loc := match look ρ r with
  | some (.old _ q) => μ q
  | some (.new sz bs) => some ⟨none, 0, sz, bs, 0⟩
  | none => none
def frOf (fz : Id → Bool) (μ : Id → Option Loc) (F : Nat → Prop) (H : HH) (b : Nat) : Prop := F b ∨ ∃ r row l, fz r = true ∧ H r = some row ∧ row.live = true ∧ μ r = some l ∧ l.b = some b
theorem named_iff {r r' : Id} {X : Prop} (h : named ρ r r' X) : muOf ρ μ r' = μ r ∧ X := by
  unfold named at h
  split at h
  · rename_i e q hq
    split at h
    · rename_i hi
      have := (ideq_iff _ _).1 hi
      subst this
      exact ⟨by simp [muOf, hq], h⟩
    · exact h.elim
  · exact h.elim
theorem All2.ofL' {α β : Type} {Q : α → β → Prop} {l : List α} {m : List β} (h1 : l.length = m.length) (h2 : ∀ i (h : i < l.length) (h' : i < m.length), Q l[i] m[i]) : All2 Q l m := .of_get h1 h2
theorem leL_get : ∀ {l m : List AV}, leK.leL fz ρ H l m → l.length = m.length ∧ ∀ i (h : i < l.length) (h' : i < m.length), leK fz ρ H l[i] m[i]
  | [], [], _ => ⟨rfl, fun i h => by simp at h⟩
  | [], _ :: _, h => h.elim
  | _ :: _, [], h => by simp only [leK.leL] at h
  | a :: l, b :: m, h => by
    simp only [leK.leL] at h
    obtain ⟨h1, h2⟩ := leL_get h.2
    refine ⟨by simp [h1], fun i hi hi' => ?_⟩
    cases i with
    | zero => exact h.1
    | succ i => exact h2 i (by simpa using hi) (by simpa using hi')
theorem fslLe_ok {F' : Nat → Prop} {c : Option Nat} {sz bs n : Nat} {el : Nat → List AV} {b : AV} {v : Value} (hF : ∀ b, F b → F' b) (h : fslLe c sz bs n el b) (hv : RepF w F (.fsl c sz bs n el) v) : RepF w F' b v := by
  unfold fslLe at h
  split at h
  · rename_i c' sz' bs' n' el'
    obtain ⟨hc, rfl, h⟩ := h
    cases hv with
    | fsE hk => exact .fsE fun m hm => hk m (hc m hm)
    | fs vs hn hFb hk hle hR hl hcell hr =>
      obtain ⟨rfl, rfl, he⟩ := h.resolve_left (by omega)
      refine .fs vs hn (hF _ hFb) (fun m hm => hk m (hc m hm)) hle hR (fun i hi => by rw [← he i hi]; exact hl i hi) hcell (fun i j hi hj => ?_)
      have h1 := he i hi
      have hj' : j < (el i).length := by rw [h1]; exact hj
      have := hr i j hi hj'
      have h2 : (el i)[j] = (el' i)[j] := by simp [h1]
      rw [← h2]
      exact this.mono (fun _ _ => rfl) hF
  · exact h.elim
theorem leF_ok {F' : Nat → Prop} {a b : AV} {v : Value} (hF : ∀ b, F b → F' b) (h : leF a b) (hv : RepF w F a v) : RepF w F' b v := by
  unfold leF at h
  split at h
  · rename_i x y
    obtain ⟨rfl, hp⟩ := RepF_lit hv
    have : v = y := by
      unfold litLe at h
      split at h
      · rw [h.1, h.2]
      · rw [h]
      · rw [h]
      · exact h
    subst this
    exact .lit hp
  · subst h; exact hv.mono (fun _ _ => rfl) hF
  · split at h
    · rename_i hd
      cases hv with
      | lz hv => rw [hd] at hv; exact fslLe_ok hF h hv
    · exact h.elim
  · exact .lz (fslLe_ok hF h hv)
  · exact fslLe_ok hF h hv
  · subst h; exact hv.mono (fun _ _ => rfl) hF
  · exact hv.mono (fun _ _ => rfl) hF
  · obtain ⟨rfl, _⟩ := RepF_lit hv; exact .top rfl
  · obtain ⟨rfl, _⟩ := RepF_lit hv; exact .top rfl
  · obtain ⟨rfl, _⟩ := RepF_lit hv; exact .top rfl
  · exact h.elim
theorem frzLe_ok (hH : HRep w μ F H) {r : Id} {o n : Nat} {c : Option Nat} {sz bs : Nat} {es : List (List AV)} (hr : H r = some (.cells sz bs es)) (hd : fz r = true) {b : AV} (h : frzLe sz bs es o n c b) {v : Value} (hv : Rep w μ F (.row r o n c) v) :
    RepF w (frOf fz μ F H) b v := by
  unfold frzLe at h
  split at h
  rotate_left
  · exact h.elim
  rename_i c' sz' bs' n' el'
  obtain ⟨rfl, rfl, rfl, hc, hle, hel⟩ := h
  obtain ⟨l, hl, hh⟩ := Rep_row hv
  obtain ⟨l', hl', hrow⟩ := hH.rows r _ hr
  obtain rfl := Option.some.inj (hl.symm.trans hl')
  obtain ⟨a1, a2, a3, a4, a5⟩ := hrow
  rcases hh with ⟨hb, rfl, rfl, hc0, a, rfl⟩ | ⟨bb, a, k, hb, hab, ha, hnk, hc1, hc2, rfl⟩
  · exact .fsE fun m hm => (hc0 m (hc m hm)).symm
  · by_cases hn : n = 0
    · subst hn
      exact .fsE fun m hm => (hc2 m (hc m hm)).1
    · rw [hb] at a5
      obtain ⟨cc, e, lo, hi, g1, g2, g3, g4⟩ := a5.h
      have ha := ha.resolve_left (by omega)
      subst ha
      have hlen : ∀ i, i < n → (el' i).length = sz := by
        intro i hi
        have h1 := (g4 (o + i) (by omega)).1
        rw [← (hel i hi).1, List.getD_eq_getElem?_getD, List.getElem?_eq_getElem (by omega)]
        exact h1
      have hes : ∀ i, (hi : i < n) → es[o + i]'(by omega) = el' i := by
        intro i hi
        rw [← (hel i hi).1, List.getD_eq_getElem?_getD, List.getElem?_eq_getElem (by omega)]; rfl
      have hcell : ∀ i j, i < n → j < sz → ∃ u : Value, u.oneCell' = true ∧ cc[l.base + (o + i) * sz + j]? = some u ∧ ∀ hj : j < (el' i).length, Rep w μ F (el' i)[j] u := by
        intro i j hi hj
        obtain ⟨u, u1, u2, u3⟩ := (g4 (o + i) (by omega)).2 j (by rw [(g4 (o + i) (by omega)).1]; exact hj)
        refine ⟨u, u1, u2, fun hj' => ?_⟩
        have := hes i hi
        simp only [← this]
        exact u3
      have hpick : ∀ i j, ∃ u : Value, i < n → j < sz → u.oneCell' = true ∧ cc[l.base + (o + i) * sz + j]? = some u ∧ ∀ hj : j < (el' i).length, Rep w μ F (el' i)[j] u := by
        intro i j
        by_cases hi : i < n
        · by_cases hj : j < sz
          · obtain ⟨u, hu⟩ := hcell i j hi hj; exact ⟨u, fun _ _ => hu⟩
          · exact ⟨undef, fun _ h => absurd h hj⟩
        · exact ⟨undef, fun h => absurd h hi⟩
      let vs : Nat → Nat → Value := fun i j => (hpick i j).choose
      have hvs : ∀ i j, i < n → j < sz → (vs i j).oneCell' = true ∧ cc[l.base + (o + i) * sz + j]? = some (vs i j) ∧ ∀ hj : j < (el' i).length, Rep w μ F (el' i)[j] (vs i j) := fun i j hi hj => (hpick i j).choose_spec hi hj
      rw [a1]
      refine .fs vs (by omega) (.inr ⟨r, _, l, hd, hr, rfl, hl, hb⟩) (fun m hm => (hc2 m (hc m hm)).1) hnk ?_ hlen (fun i j hi hj => ?_) (fun i j hi hj => ?_)
      · exact Nat.le_trans (Nat.mul_le_mul_right _ (by omega)) a4
      · obtain ⟨k1, k2, _⟩ := hvs i j hi hj
        refine ⟨?_, k1⟩
        have he : l.base + o * sz + i * sz + j = l.base + (o + i) * sz + j := by rw [Nat.add_mul]; omega
        simp only [World.cell?, he]
        rw [g1]
        simp [k2]
      · have := (hvs i j hi (by rw [← hlen i hi]; exact hj)).2.2 hj
        exact (idf_frz this (idfL_get (hel i hi).2 j hj)).mono (fun _ _ => rfl) fun _ h => .inl h
theorem leK_frz {a : AV} {v : Value} (hv : RepF w F a v) : ∀ {b : AV}, leK fz ρ H a b → Rep w (muOf ρ μ) (frOf fz μ F H) b v := by
  have hF : ∀ b, F b → frOf fz μ F H b := fun _ h => .inl h
  have fslCase : ∀ {c sz bs n el v b}, RepF w F (.fsl c sz bs n el) v → leK fz ρ H (.fsl c sz bs n el) b → Rep w (muOf ρ μ) (frOf fz μ F H) b v := by
    intro c sz bs n el v b hv h
    unfold leK at h
    split at h
    · split at h
      · rename_i r' o' n' c' _ sz0 bs0 hl
        obtain ⟨⟨rfl, rfl⟩, rfl, rfl, rfl⟩ := h
        cases hv with
        | fsE hk =>
          obtain rfl := hk 0 rfl
          exact .row0 (l := ⟨none, 0, sz0, bs0, 0⟩) (by simp [muOf, hl]) rfl (by simp)
        | fs _ hn => omega
      · exact h.elim
    · exact .frz (leF_ok hF h hv)
  induction hv with
  | lit hp => intro b h; simp only [leK] at h; exact .frz (leF_ok hF h (.lit hp))
  | top hp => intro b h; simp only [leK] at h; exact .frz (leF_ok hF h (.top hp))
  | fsE hk => intro b h; exact fslCase (.fsE hk) h
  | fs vs h1 h2 h3 h4 h5 h6 h7 h8 => intro b h; exact fslCase (.fs vs h1 h2 h3 h4 h5 h6 h7 h8) h
  | fp vs h1 h2 h3 h4 h5 => intro b h; simp only [leK] at h; exact .frz (leF_ok hF h (.fp vs h1 h2 h3 h4 h5))
  | lz h1 => intro b h; simp only [leK] at h; exact .frz (leF_ok hF h (.lz h1))
  | ifc h1 ih =>
    intro b h
    simp only [leK] at h
    split at h
    · obtain ⟨rfl, h⟩ := h; exact .ifc (ih h)
    · exact h.elim
  | agg h1 h2 ih =>
    intro b h
    simp only [leK] at h
    split at h
    · obtain ⟨k1, k2⟩ := leL_get h
      exact .agg (by omega) fun i hi hi' => ih i (by omega) hi' (k2 i (by omega) hi)
    · exact h.elim
  | tup h1 h2 ih =>
    intro b h
    simp only [leK] at h
    split at h
    · obtain ⟨k1, k2⟩ := leL_get h
      exact .tup (by omega) fun i hi hi' => ih i (by omega) hi' (k2 i (by omega) hi)
    · exact h.elim
  | clo h1 h2 _ _ i1 i2 =>
    intro b h
    simp only [leK] at h
    split at h
    · obtain ⟨rfl, ha, hb⟩ := h
      obtain ⟨k1, k2⟩ := leL_get ha
      obtain ⟨k3, k4⟩ := leL_get hb
      exact .clo (by omega) (by omega) (fun i hi hi' => i1 i (by omega) hi' (k2 i (by omega) hi)) (fun i hi hi' => i2 i (by omega) hi' (k4 i (by omega) hi))
    · exact h.elim
theorem leK_ok (hH : HRep w μ F H) {a : AV} {v : Value} (hv : Rep w μ F a v) : ∀ {b : AV}, leK fz ρ H a b → Rep w (muOf ρ μ) (frOf fz μ F H) b v := by
  have rowCase : ∀ {r o n c v b}, Rep w μ F (.row r o n c) v → leK fz ρ H (.row r o n c) b → Rep w (muOf ρ μ) (frOf fz μ F H) b v := by
    intro r o n c v b hv h
    simp only [leK] at h
    unfold leRow at h
    split at h
    · obtain ⟨hm, rfl, rfl, rfl⟩ := named_iff (μ := μ) h
      cases hv with
      | frz h => cases h
      | row0 h1 h2 h3 => exact .row0 (hm.trans h1) h2 h3
      | row h1 h2 h3 h4 h5 h6 h7 => exact .row (hm.trans h1) h2 h3 h4 h5 h6 h7
    · split at h
      · rename_i hr
        split at h
        · rename_i hd
          exact .frz (.lz (frzLe_ok hH hr hd h hv))
        · exact h.elim
      · exact h.elim
    · split at h
      · rename_i hr
        split at h
        · rename_i hd
          exact .frz (frzLe_ok hH hr hd h hv)
        · exact h.elim
      · exact h.elim
    · exact h.elim
  induction hv with
  | frz hv => exact fun h => leK_frz hv h
  | row0 h1 h2 h3 => intro b h; exact rowCase (.row0 h1 h2 h3) h
  | row h1 h2 h3 h4 h5 h6 h7 => intro b h; exact rowCase (.row h1 h2 h3 h4 h5 h6 h7) h
  | ptr h1 h2 =>
    intro b h
    simp only [leK] at h
    split at h
    · obtain ⟨hm, rfl, rfl⟩ := named_iff (μ := μ) h
      exact .ptr (hm.trans h1) h2
    · exact h.elim
  | mref h1 h2 =>
    intro b h
    simp only [leK] at h
    split at h
    · obtain ⟨hm, _⟩ := named_iff (μ := μ) h
      exact .mref (hm.trans h1) h2
    · exact h.elim
  | ifc h1 ih =>
    intro b h
    simp only [leK] at h
    split at h
    · obtain ⟨rfl, h⟩ := h; exact .ifc (ih h)
    · exact h.elim
  | agg h1 h2 ih =>
    intro b h
    simp only [leK] at h
    split at h
    · obtain ⟨k1, k2⟩ := leL_get h
      exact .agg (by omega) fun i hi hi' => ih i (by omega) hi' (k2 i (by omega) hi)
    · exact h.elim
  | tup h1 h2 ih =>
    intro b h
    simp only [leK] at h
    split at h
    · obtain ⟨k1, k2⟩ := leL_get h
      exact .tup (by omega) fun i hi hi' => ih i (by omega) hi' (k2 i (by omega) hi)
    · exact h.elim
  | clo h1 h2 _ _ i1 i2 =>
    intro b h
    simp only [leK] at h
    split at h
    · obtain ⟨rfl, ha, hb⟩ := h
      obtain ⟨k1, k2⟩ := leL_get ha
      obtain ⟨k3, k4⟩ := leL_get hb
      exact .clo (by omega) (by omega) (fun i hi hi' => i1 i (by omega) hi' (k2 i (by omega) hi)) (fun i hi hi' => i2 i (by omega) hi' (k4 i (by omega) hi))
    · exact h.elim
end
end Go.Eng

/- Part 8 of the proof of 'ExprSums': an engine for the program's code, and walks of its functions (AC AD AE AF AG AH AI AJ). -/
import Derived.Test.YtlcepambcoobgaaGreatDoorPart07
/- The table of types, computed from the program's. -/
namespace Go.Eng
def offsOf (P : Program) : List Field → Option (List (Nat × Nat))
  | [] => some []
  | f :: l => match P.info? f.type with
    | some i => match i.size with
      | 0 => none
      | n + 1 => match offsOf P l with | some r => some ((f.offset, n + 1) :: r) | none => none
    | none => none
def tdOf (P : Program) : TypeDesc → Option TD
  | .int k => some (.int k)
  | .bool => some .bool
  | .string => some .string
  | .slice e => some (.slice e)
  | .struct fs => match offsOf P fs.toList with | some o => some (.struct o) | none => none
  | .pointer e => some (.ptr e)
  | .interface _ => some .iface
  | .map k e => some (.map k e)
  | .func _ _ _ => some .func
  | .chan _ _ => some .other
  | _ => none
def zerosOf : List Value → Option (List AV)
  | [] => some []
  | v :: l => match constAV v, zerosOf l with | some a, some r => (match v.oneCell' with | true => some (a :: r) | false => none) | _, _ => none
def isAggV : Value → Bool | .agg _ => true | _ => false
def tiOf (P : Program) (t : TypeId) : Option TI :=
  match P.info? t, P.underlying t with
  | some i, some d => match tdOf P d, i.zero with
    | some td, some z => match zerosOf z.cells.toList with
      | some zs => match Nat.beq zs.length i.size, Nat.ble i.bytes R, isAggT td == isAggV z, isAggT td || z.oneCell' with
        | true, true, true, true => some ⟨td, i.size, i.bytes, zs⟩
        | _, _, _, _ => none
      | none => none
    | _, _ => none
  | _, _ => none
theorem zerosOf_ok {w : World} {F : Nat → Prop} : ∀ {l : List Value} {zs : List AV}, zerosOf l = some zs → All2 (RepF w F) zs l ∧ ∀ v, v ∈ l → v.oneCell' = true
  | [], zs, h => by cases h; exact ⟨.nil, by simp⟩
  | v :: l, zs, h => by
    unfold zerosOf at h
    split at h
    · rename_i a r ha hr
      split at h
      · rename_i h1
        cases h
        obtain ⟨h2, h3⟩ := zerosOf_ok hr
        exact ⟨.cons (constAV_rep ha) h2, fun u hu => (List.mem_cons.1 hu).elim (fun e => e ▸ h1) (h3 u)⟩
      · cases h
    · cases h
theorem offsOf_ok {P : Program} : ∀ {l : List Field} {o : List (Nat × Nat)}, offsOf P l = some o → All2 (fun (o : Nat × Nat) (f : Field) => o.1 = f.offset ∧ o.2 ≠ 0 ∧ ∃ i, P.info? f.type = some i ∧ i.size = o.2) o l
  | [], o, h => by cases h; exact .nil
  | f :: l, o, h => by
    unfold offsOf at h
    split at h
    · rename_i i hi
      split at h
      · cases h
      · rename_i n hn
        split at h
        · rename_i r hr
          cases h
          exact .cons ⟨rfl, by simp, i, hi, hn⟩ (offsOf_ok hr)
        · cases h
    · cases h
theorem tiOf_ok {P : Program} {t : TypeId} {ti : TI} (h : tiOf P t = some ti) : TOK P t ti := by
  unfold tiOf at h
  split at h
  rotate_left
  · cases h
  rename_i i d hi hd
  split at h
  rotate_left
  · cases h
  rename_i td z htd hz
  split at h
  rotate_left
  · cases h
  rename_i zs hzs
  split at h
  rotate_left
  · cases h
  rename_i h1 h2 h3 h4
  cases h
  refine ⟨i, d, z, hi, hd, rfl, rfl, ?_, hz, ?_, Nat.eq_of_beq_eq_true h1, fun w F => (zerosOf_ok hzs).1, (zerosOf_ok (w := default) (F := fun _ => True) hzs).2, Nat.le_of_ble_eq_true h2⟩
  · unfold tdOf at htd
    split at htd
    · cases htd; rfl
    · cases htd; rfl
    · cases htd; rfl
    · cases htd; rfl
    · split at htd
      · rename_i ho; cases htd; exact ⟨_, rfl, offsOf_ok ho⟩
      · cases htd
    · cases htd; rfl
    · cases htd; exact ⟨_, rfl⟩
    · cases htd; rfl
    · cases htd; exact ⟨_, _, _, rfl⟩
    · cases htd; exact ⟨rfl, fun ms h => by cases h⟩
    · cases htd
  · simp only
    cases hx : isAggT td with
    | true =>
      rw [hx] at h3
      have : isAggV z = true := by simpa using h3
      cases z <;> simp [isAggV] at this
      exact ⟨_, rfl⟩
    | false =>
      rw [hx] at h4
      simpa using h4
/-- A method with a value for its receiver. -/
def methOf (P : Program) (t : TypeId) (name : String) : Option FuncId :=
  match P.info? t, P.underlying t with
  | some i, some d => match i.methods.find? (·.name == name) with
    | some m => match m.path.isEmpty, m.func with
      | true, some (f, false) => (match d with | .pointer _ => none | _ => some f)
      | _, _ => none
    | none => none
  | _, _ => none
theorem methOf_ok {P : Program} {t : TypeId} {name : String} {f : FuncId} (h : methOf P t name = some f) : ∀ (v : Value) (w : World), (method (P.types.size + Made.depth) t v name).run P w = .ok (f, v) w := by
  intro v w
  obtain ⟨n, hn⟩ : ∃ n, P.types.size + Made.depth = n + 1 := ⟨P.types.size + (Made.depth - 1), by unfold Made.depth; rfl⟩
  rw [hn]
  unfold methOf at h
  split at h
  rotate_left
  · cases h
  rename_i i d hi hd
  split at h
  rotate_left
  · cases h
  rename_i m hm
  split at h
  rotate_left
  · cases h
  rename_i f' hp hf
  have hpath : m.path = #[] := by simpa using hp
  have hdd : (∀ e, d ≠ .pointer e) ∧ f' = f := by
    split at h
    · cases h
    · rename_i hne
      exact ⟨fun e he => hne e he, by simpa using h⟩
  obtain ⟨hne, rfl⟩ := hdd
  simp only [method, typeInfo, Sem.run_bind, run_program, Result.andThen_ok, hi, Sem.run_pure, hm, hpath, follow, hf, receiverAt, run_underlying hd]
  cases d <;> first | exact absurd rfl (hne _) | rfl
/-- A table, as a tree. -/
inductive Tr (α : Type) where
  | leaf
  | node (k : Nat) (v : α) (l r : Tr α)
def Tr.get {α : Type} (n : Nat) : Tr α → Option α
  | .leaf => none
  | .node k v l r => match Nat.beq n k with
    | true => some v
    | false => match Nat.blt n k with | true => l.get n | false => r.get n
def Tr.All {α : Type} (p : Nat → α → Prop) : Tr α → Prop
  | .leaf => True
  | .node k v l r => p k v ∧ l.All p ∧ r.All p
theorem Tr.All.get {α : Type} {p : Nat → α → Prop} : ∀ {t : Tr α} {n : Nat} {v : α}, t.All p → t.get n = some v → p n v
  | .leaf, n, v, _, h => by cases h
  | .node k u l r, n, v, ha, h => by
    unfold Tr.get at h
    split at h
    · rename_i hb
      cases h
      rw [Nat.eq_of_beq_eq_true hb]
      exact ha.1
    · split at h
      · exact Tr.All.get ha.2.1 h
      · exact Tr.All.get ha.2.2 h
end Go.Eng
/- A state seen another way: a check, and its soundness. -/
namespace Go.Eng
inductive Src where
  | old (each : Bool) (r : Id)
  | new (sz bs : Nat)
def look : List (Id × Src) → Id → Option Src
  | [], _ => none
  | (k, s) :: l, r => match ideq r k with | true => some s | false => look l r
def named (ρ : List (Id × Src)) (r r' : Id) (X : Prop) : Prop := match look ρ r' with
  | some (.old _ q) => match ideq r q with | true => X | false => False
  | _ => False
def isOld (r : Id) : Src → Bool | .old _ q => ideq q r | .new .. => false
def dropped (ρ : List (Id × Src)) (r : Id) : Bool := match ρ with
  | [] => true
  | (_, s) :: l => match isOld r s with | true => false | false => dropped l r
/-- One frozen slice as another. -/
def fslLe (c : Option Nat) (sz bs n : Nat) (el : Nat → List AV) : AV → Prop
  | .fsl c' sz' bs' n' el' => (∀ m, c' = some m → c = some m) ∧ n = n' ∧ (n = 0 ∨ (sz = sz' ∧ bs = bs' ∧ ∀ i, i < n → el i = el' i))
  | _ => False
def litLe : Value → Value → Prop
  | .int k x, .int k' y => k = k' ∧ x = y
  | .string x, .string y => x = y
  | .bool x, .bool y => x = y
  | v, v' => v = v'
/-- What names no row, as something else. -/
def leF : AV → AV → Prop
  | .lit v, .lit v' => litLe v v'
  | .lz d, .lz d' => d = d'
  | .lz d, .fsl c' sz' bs' n' el' => match d.unf with | .fsl c sz bs n el => fslLe c sz bs n el (.fsl c' sz' bs' n' el') | _ => False
  | .fsl c sz bs n el, .lz d => fslLe c sz bs n el d.unf
  | .fsl c sz bs n el, b => fslLe c sz bs n el b
  | .fptr sz n el i j, b => .fptr sz n el i j = b
  | .top, .top => True
  | .lit (.int _ _), .top => True
  | .lit (.bool _), .top => True
  | .lit (.string _), .top => True
  | _, _ => False
/-- A row of its own as a slice that nobody writes. -/
def frzLe (sz bs : Nat) (es : List (List AV)) (o n : Nat) (c : Option Nat) : AV → Prop
  | .fsl c' sz' bs' n' el' => sz = sz' ∧ bs = bs' ∧ n = n' ∧ (∀ m, c' = some m → c = some m) ∧ o + n ≤ es.length ∧ ∀ i, i < n → es.getD (o + i) [] = el' i ∧ idfL (el' i) = true
  | _ => False
def leRow (fz : Id → Bool) (ρ : List (Id × Src)) (H : HH) (r : Id) (o n : Nat) (c : Option Nat) : AV → Prop
  | .row r' o' n' c' => named ρ r r' (o = o' ∧ n = n' ∧ c = c')
  | .lz d => match H r with | some (.cells sz bs es) => (match fz r with | true => frzLe sz bs es o n c d.unf | false => False) | _ => False
  | .fsl c' sz' bs' n' el' => match H r with | some (.cells sz bs es) => (match fz r with | true => frzLe sz bs es o n c (.fsl c' sz' bs' n' el') | false => False) | _ => False
  | _ => False
def leK (fz : Id → Bool) (ρ : List (Id × Src)) (H : HH) : AV → AV → Prop
  | .row r o n c, b => leRow fz ρ H r o n c b
  | .ptr r i j, b => match b with | .ptr r' i' j' => named ρ r r' (i = i' ∧ j = j') | _ => False
  | .mref r, b => match b with | .mref r' => named ρ r r' True | _ => False
  | .agg l, b => match b with | .agg m => leL l m | _ => False
  | .tup l, b => match b with | .tup m => leL l m | _ => False
  | .ifc t v, b => match b with | .ifc t' v' => t = t' ∧ leK fz ρ H v v' | _ => False
  | .clo fn x y, b => match b with | .clo fn' x' y' => fn = fn' ∧ leL x x' ∧ leL y y' | _ => False
  | .fsl c sz bs n el, b => match b with
    | .row r' o' n' c' => match look ρ r' with | some (.new _ _) => (c = some 0 ∧ n = 0) ∧ (o' = 0 ∧ n' = 0 ∧ c' = none) | _ => False
    | b => leF (.fsl c sz bs n el) b
  | .lit v, b => leF (.lit v) b
  | .top, b => leF .top b
  | .fptr sz n el i j, b => leF (.fptr sz n el i j) b
  | .lz d, b => leF (.lz d) b
where leL : List AV → List AV → Prop
  | [], m => match m with | [] => True | _ :: _ => False
  | a :: l, m => match m with | [] => False | b :: m => leK fz ρ H a b ∧ leL l m
def leLL (fz : Id → Bool) (ρ : List (Id × Src)) (H : HH) : List (List AV) → List (List AV) → Prop
  | [], m => match m with | [] => True | _ :: _ => False
  | a :: l, m => match m with | [] => False | b :: m => leK.leL fz ρ H a b ∧ leLL fz ρ H l m
def rowLe (fz : Id → Bool) (ρ : List (Id × Src)) (H : HH) (each : Bool) : Row → Row → Prop
  | .cells sz bs es, b => match b with
    | .cells sz' bs' es' => (sz = sz' ∧ bs = bs') ∧ (match each with | true => leLL fz ρ H es es' | false => es = es' ∧ ∀ e, e ∈ es' → idfL e = true)
    | .dead => True
    | _ => False
  | .map kv, b => match b with
    | .map kv' => kv = kv' ∧ ∀ p, p ∈ kv' → idf p.1 = true ∧ idf p.2 = true
    | .dead => True
    | _ => False
  | .iter s p, b => match b with
    | .iter s' p' => s = s' ∧ p = p'
    | .dead => True
    | _ => False
  | .dead, b => match b with | .dead => True | _ => False
def tempsK (fz : Id → Bool) (ρ : List (Id × Src)) (T : TT) (H : HH) : List (Nat × AV) → Prop
  | [] => True
  | (t, b) :: l => (match T t with | some a => leK fz ρ H a b | none => False) ∧ tempsK fz ρ T H l
def rowsK (fz : Id → Bool) (ρ : List (Id × Src)) (H : HH) : List (Id × Row) → Prop
  | [] => True
  | (r, b) :: l => (match look ρ r with
    | some (.old e q) => (match H q with | some a => rowLe fz ρ H e a b | none => False)
    | some (.new sz bs) => (match b with | .cells sz' bs' [] => sz = sz' ∧ bs = bs' | _ => False)
    | none => False) ∧ rowsK fz ρ H l
def keysIn (HL : List (Id × Row)) : List (Id × Src) → Bool
  | [] => true
  | (k, _) :: l => HL.any (fun p => ideq p.1 k) && keysIn HL l
def olds : List (Id × Src) → Bool
  | [] => true
  | (_, .old _ q) :: l => dropped l q && olds l
  | (_, .new ..) :: l => olds l
/-- The names of generation 0 stay. -/
def Gen0 (ρ : List (Id × Src)) (H : HH) : Prop := ∀ r, r.1 = 0 → H r ≠ none → ∃ e, look ρ r = some (.old e r)
def subK (ρ : List (Id × Src)) (T : TT) (H : HH) (TL : List (Nat × AV)) (HL : List (Id × Row)) : Prop :=
  match keysIn HL ρ, olds ρ with
  | true, true => tempsK (dropped ρ) ρ T H TL ∧ rowsK (dropped ρ) ρ H HL
  | _, _ => False
end Go.Eng
/- The check of a state seen another way is sound. -/
namespace Go.Eng
section
variable {fz : Id → Bool} {ρ : List (Id × Src)} {w : World} {μ : Id → Option Loc} {F : Nat → Prop} {H : HH}
def muOf (ρ : List (Id × Src)) (μ : Id → Option Loc) (r : Id) : Option Loc := match look ρ r with
  | some (.old _ q) => μ q
  | some (.new sz bs) => some ⟨none, 0, sz, bs, 0⟩
  | none => none
def frOf (fz : Id → Bool) (μ : Id → Option Loc) (F : Nat → Prop) (H : HH) (b : Nat) : Prop := F b ∨ ∃ r row l, fz r = true ∧ H r = some row ∧ row.live = true ∧ μ r = some l ∧ l.b = some b
theorem named_iff {r r' : Id} {X : Prop} (h : named ρ r r' X) : muOf ρ μ r' = μ r ∧ X := by
  unfold named at h
  split at h
  · rename_i e q hq
    split at h
    · rename_i hi
      have := (ideq_iff _ _).1 hi
      subst this
      exact ⟨by simp [muOf, hq], h⟩
    · exact h.elim
  · exact h.elim
theorem All2.ofL' {α β : Type} {Q : α → β → Prop} {l : List α} {m : List β} (h1 : l.length = m.length) (h2 : ∀ i (h : i < l.length) (h' : i < m.length), Q l[i] m[i]) : All2 Q l m := .of_get h1 h2
theorem leL_get : ∀ {l m : List AV}, leK.leL fz ρ H l m → l.length = m.length ∧ ∀ i (h : i < l.length) (h' : i < m.length), leK fz ρ H l[i] m[i]
  | [], [], _ => ⟨rfl, fun i h => by simp at h⟩
  | [], _ :: _, h => h.elim
  | _ :: _, [], h => by simp only [leK.leL] at h
  | a :: l, b :: m, h => by
    simp only [leK.leL] at h
    obtain ⟨h1, h2⟩ := leL_get h.2
    refine ⟨by simp [h1], fun i hi hi' => ?_⟩
    cases i with
    | zero => exact h.1
    | succ i => exact h2 i (by simpa using hi) (by simpa using hi')
theorem fslLe_ok {F' : Nat → Prop} {c : Option Nat} {sz bs n : Nat} {el : Nat → List AV} {b : AV} {v : Value} (hF : ∀ b, F b → F' b) (h : fslLe c sz bs n el b) (hv : RepF w F (.fsl c sz bs n el) v) : RepF w F' b v := by
  unfold fslLe at h
  split at h
  · rename_i c' sz' bs' n' el'
    obtain ⟨hc, rfl, h⟩ := h
    cases hv with
    | fsE hk => exact .fsE fun m hm => hk m (hc m hm)
    | fs vs hn hFb hk hle hR hl hcell hr =>
      obtain ⟨rfl, rfl, he⟩ := h.resolve_left (by omega)
      refine .fs vs hn (hF _ hFb) (fun m hm => hk m (hc m hm)) hle hR (fun i hi => by rw [← he i hi]; exact hl i hi) hcell (fun i j hi hj => ?_)
      have h1 := he i hi
      have hj' : j < (el i).length := by rw [h1]; exact hj
      have := hr i j hi hj'
      have h2 : (el i)[j] = (el' i)[j] := by simp [h1]
      rw [← h2]
      exact this.mono (fun _ _ => rfl) hF
  · exact h.elim
theorem leF_ok {F' : Nat → Prop} {a b : AV} {v : Value} (hF : ∀ b, F b → F' b) (h : leF a b) (hv : RepF w F a v) : RepF w F' b v := by
  unfold leF at h
  split at h
  · rename_i x y
    obtain ⟨rfl, hp⟩ := RepF_lit hv
    have : v = y := by
      unfold litLe at h
      split at h
      · rw [h.1, h.2]
      · rw [h]
      · rw [h]
      · exact h
    subst this
    exact .lit hp
  · subst h; exact hv.mono (fun _ _ => rfl) hF
  · split at h
    · rename_i hd
      cases hv with
      | lz hv => rw [hd] at hv; exact fslLe_ok hF h hv
    · exact h.elim
  · exact .lz (fslLe_ok hF h hv)
  · exact fslLe_ok hF h hv
  · subst h; exact hv.mono (fun _ _ => rfl) hF
  · exact hv.mono (fun _ _ => rfl) hF
  · obtain ⟨rfl, _⟩ := RepF_lit hv; exact .top rfl
  · obtain ⟨rfl, _⟩ := RepF_lit hv; exact .top rfl
  · obtain ⟨rfl, _⟩ := RepF_lit hv; exact .top rfl
  · exact h.elim
theorem frzLe_ok (hH : HRep w μ F H) {r : Id} {o n : Nat} {c : Option Nat} {sz bs : Nat} {es : List (List AV)} (hr : H r = some (.cells sz bs es)) (hd : fz r = true) {b : AV} (h : frzLe sz bs es o n c b) {v : Value} (hv : Rep w μ F (.row r o n c) v) :
    RepF w (frOf fz μ F H) b v := by
  unfold frzLe at h
  split at h
  rotate_left
  · exact h.elim
  rename_i c' sz' bs' n' el'
  obtain ⟨rfl, rfl, rfl, hc, hle, hel⟩ := h
  obtain ⟨l, hl, hh⟩ := Rep_row hv
  obtain ⟨l', hl', hrow⟩ := hH.rows r _ hr
  obtain rfl := Option.some.inj (hl.symm.trans hl')
  obtain ⟨a1, a2, a3, a4, a5⟩ := hrow
  rcases hh with ⟨hb, rfl, rfl, hc0, a, rfl⟩ | ⟨bb, a, k, hb, hab, ha, hnk, hc1, hc2, rfl⟩
  · exact .fsE fun m hm => (hc0 m (hc m hm)).symm
  · by_cases hn : n = 0
    · subst hn
      exact .fsE fun m hm => (hc2 m (hc m hm)).1
    · rw [hb] at a5
      obtain ⟨cc, e, lo, hi, g1, g2, g3, g4⟩ := a5.h
      have ha := ha.resolve_left (by omega)
      subst ha
      have hlen : ∀ i, i < n → (el' i).length = sz := by
        intro i hi
        have h1 := (g4 (o + i) (by omega)).1
        rw [← (hel i hi).1, List.getD_eq_getElem?_getD, List.getElem?_eq_getElem (by omega)]
        exact h1
      have hes : ∀ i, (hi : i < n) → es[o + i]'(by omega) = el' i := by
        intro i hi
        rw [← (hel i hi).1, List.getD_eq_getElem?_getD, List.getElem?_eq_getElem (by omega)]; rfl
      have hcell : ∀ i j, i < n → j < sz → ∃ u : Value, u.oneCell' = true ∧ cc[l.base + (o + i) * sz + j]? = some u ∧ ∀ hj : j < (el' i).length, Rep w μ F (el' i)[j] u := by
        intro i j hi hj
        obtain ⟨u, u1, u2, u3⟩ := (g4 (o + i) (by omega)).2 j (by rw [(g4 (o + i) (by omega)).1]; exact hj)
        refine ⟨u, u1, u2, fun hj' => ?_⟩
        have := hes i hi
        simp only [← this]
        exact u3
      have hpick : ∀ i j, ∃ u : Value, i < n → j < sz → u.oneCell' = true ∧ cc[l.base + (o + i) * sz + j]? = some u ∧ ∀ hj : j < (el' i).length, Rep w μ F (el' i)[j] u := by
        intro i j
        by_cases hi : i < n
        · by_cases hj : j < sz
          · obtain ⟨u, hu⟩ := hcell i j hi hj; exact ⟨u, fun _ _ => hu⟩
          · exact ⟨undef, fun _ h => absurd h hj⟩
        · exact ⟨undef, fun h => absurd h hi⟩
      let vs : Nat → Nat → Value := fun i j => (hpick i j).choose
      have hvs : ∀ i j, i < n → j < sz → (vs i j).oneCell' = true ∧ cc[l.base + (o + i) * sz + j]? = some (vs i j) ∧ ∀ hj : j < (el' i).length, Rep w μ F (el' i)[j] (vs i j) := fun i j hi hj => (hpick i j).choose_spec hi hj
      rw [a1]
      refine .fs vs (by omega) (.inr ⟨r, _, l, hd, hr, rfl, hl, hb⟩) (fun m hm => (hc2 m (hc m hm)).1) hnk ?_ hlen (fun i j hi hj => ?_) (fun i j hi hj => ?_)
      · exact Nat.le_trans (Nat.mul_le_mul_right _ (by omega)) a4
      · obtain ⟨k1, k2, _⟩ := hvs i j hi hj
        refine ⟨?_, k1⟩
        have he : l.base + o * sz + i * sz + j = l.base + (o + i) * sz + j := by rw [Nat.add_mul]; omega
        simp only [World.cell?, he]
        rw [g1]
        simp [k2]
      · have := (hvs i j hi (by rw [← hlen i hi]; exact hj)).2.2 hj
        exact (idf_frz this (idfL_get (hel i hi).2 j hj)).mono (fun _ _ => rfl) fun _ h => .inl h
theorem leK_frz {a : AV} {v : Value} (hv : RepF w F a v) : ∀ {b : AV}, leK fz ρ H a b → Rep w (muOf ρ μ) (frOf fz μ F H) b v := by
  have hF : ∀ b, F b → frOf fz μ F H b := fun _ h => .inl h
  have fslCase : ∀ {c sz bs n el v b}, RepF w F (.fsl c sz bs n el) v → leK fz ρ H (.fsl c sz bs n el) b → Rep w (muOf ρ μ) (frOf fz μ F H) b v := by
    intro c sz bs n el v b hv h
    unfold leK at h
    split at h
    · split at h
      · rename_i r' o' n' c' _ sz0 bs0 hl
        obtain ⟨⟨rfl, rfl⟩, rfl, rfl, rfl⟩ := h
        cases hv with
        | fsE hk =>
          obtain rfl := hk 0 rfl
          exact .row0 (l := ⟨none, 0, sz0, bs0, 0⟩) (by simp [muOf, hl]) rfl (by simp)
        | fs _ hn => omega
      · exact h.elim
    · exact .frz (leF_ok hF h hv)
  induction hv with
  | lit hp => intro b h; simp only [leK] at h; exact .frz (leF_ok hF h (.lit hp))
  | top hp => intro b h; simp only [leK] at h; exact .frz (leF_ok hF h (.top hp))
  | fsE hk => intro b h; exact fslCase (.fsE hk) h
  | fs vs h1 h2 h3 h4 h5 h6 h7 h8 => intro b h; exact fslCase (.fs vs h1 h2 h3 h4 h5 h6 h7 h8) h
  | fp vs h1 h2 h3 h4 h5 => intro b h; simp only [leK] at h; exact .frz (leF_ok hF h (.fp vs h1 h2 h3 h4 h5))
  | lz h1 => intro b h; simp only [leK] at h; exact .frz (leF_ok hF h (.lz h1))
  | ifc h1 ih =>
    intro b h
    simp only [leK] at h
    split at h
    · obtain ⟨rfl, h⟩ := h; exact .ifc (ih h)
    · exact h.elim
  | agg h1 h2 ih =>
    intro b h
    simp only [leK] at h
    split at h
    · obtain ⟨k1, k2⟩ := leL_get h
      exact .agg (by omega) fun i hi hi' => ih i (by omega) hi' (k2 i (by omega) hi)
    · exact h.elim
  | tup h1 h2 ih =>
    intro b h
    simp only [leK] at h
    split at h
    · obtain ⟨k1, k2⟩ := leL_get h
      exact .tup (by omega) fun i hi hi' => ih i (by omega) hi' (k2 i (by omega) hi)
    · exact h.elim
  | clo h1 h2 _ _ i1 i2 =>
    intro b h
    simp only [leK] at h
    split at h
    · obtain ⟨rfl, ha, hb⟩ := h
      obtain ⟨k1, k2⟩ := leL_get ha
      obtain ⟨k3, k4⟩ := leL_get hb
      exact .clo (by omega) (by omega) (fun i hi hi' => i1 i (by omega) hi' (k2 i (by omega) hi)) (fun i hi hi' => i2 i (by omega) hi' (k4 i (by omega) hi))
    · exact h.elim
theorem leK_ok (hH : HRep w μ F H) {a : AV} {v : Value} (hv : Rep w μ F a v) : ∀ {b : AV}, leK fz ρ H a b → Rep w (muOf ρ μ) (frOf fz μ F H) b v := by
  have rowCase : ∀ {r o n c v b}, Rep w μ F (.row r o n c) v → leK fz ρ H (.row r o n c) b → Rep w (muOf ρ μ) (frOf fz μ F H) b v := by
    intro r o n c v b hv h
    simp only [leK] at h
    unfold leRow at h
    split at h
    · obtain ⟨hm, rfl, rfl, rfl⟩ := named_iff (μ := μ) h
      cases hv with
      | frz h => cases h
      | row0 h1 h2 h3 => exact .row0 (hm.trans h1) h2 h3
      | row h1 h2 h3 h4 h5 h6 h7 => exact .row (hm.trans h1) h2 h3 h4 h5 h6 h7
    · split at h
      · rename_i hr
        split at h
        · rename_i hd
          exact .frz (.lz (frzLe_ok hH hr hd h hv))
        · exact h.elim
      · exact h.elim
    · split at h
      · rename_i hr
        split at h
        · rename_i hd
          exact .frz (frzLe_ok hH hr hd h hv)
        · exact h.elim
      · exact h.elim
    · exact h.elim
  induction hv with
  | frz hv => exact fun h => leK_frz hv h
  | row0 h1 h2 h3 => intro b h; exact rowCase (.row0 h1 h2 h3) h
  | row h1 h2 h3 h4 h5 h6 h7 => intro b h; exact rowCase (.row h1 h2 h3 h4 h5 h6 h7) h
  | ptr h1 h2 =>
    intro b h
    simp only [leK] at h
    split at h
    · obtain ⟨hm, rfl, rfl⟩ := named_iff (μ := μ) h
      exact .ptr (hm.trans h1) h2
    · exact h.elim
  | mref h1 h2 =>
    intro b h
    simp only [leK] at h
    split at h
    · obtain ⟨hm, _⟩ := named_iff (μ := μ) h
      exact .mref (hm.trans h1) h2
    · exact h.elim
  | ifc h1 ih =>
    intro b h
    simp only [leK] at h
    split at h
    · obtain ⟨rfl, h⟩ := h; exact .ifc (ih h)
    · exact h.elim
  | agg h1 h2 ih =>
    intro b h
    simp only [leK] at h
    split at h
    · obtain ⟨k1, k2⟩ := leL_get h
      exact .agg (by omega) fun i hi hi' => ih i (by omega) hi' (k2 i (by omega) hi)
    · exact h.elim
  | tup h1 h2 ih =>
    intro b h
    simp only [leK] at h
    split at h
    · obtain ⟨k1, k2⟩ := leL_get h
      exact .tup (by omega) fun i hi hi' => ih i (by omega) hi' (k2 i (by omega) hi)
    · exact h.elim
  | clo h1 h2 _ _ i1 i2 =>
    intro b h
    simp only [leK] at h
    split at h
    · obtain ⟨rfl, ha, hb⟩ := h
      obtain ⟨k1, k2⟩ := leL_get ha
      obtain ⟨k3, k4⟩ := leL_get hb
      exact .clo (by omega) (by omega) (fun i hi hi' => i1 i (by omega) hi' (k2 i (by omega) hi)) (fun i hi hi' => i2 i (by omega) hi' (k4 i (by omega) hi))
    · exact h.elim
end
end Go.Eng
/- The check of a state seen another way is sound: rows, whole states. -/
namespace Go.Eng
section
variable {fz : Id → Bool} {ρ : List (Id × Src)} {w : World} {μ : Id → Option Loc} {F : Nat → Prop} {H : HH}
theorem leLL_get : ∀ {l m : List (List AV)}, leLL fz ρ H l m → l.length = m.length ∧ ∀ i (h : i < l.length) (h' : i < m.length), leK.leL fz ρ H l[i] m[i]
  | [], [], _ => ⟨rfl, fun i h => by simp at h⟩
  | [], _ :: _, h => h.elim
  | _ :: _, [], h => by simp only [leLL] at h
  | a :: l, b :: m, h => by
    simp only [leLL] at h
    obtain ⟨h1, h2⟩ := leLL_get h.2
    refine ⟨by simp [h1], fun i hi hi' => ?_⟩
    cases i with
    | zero => exact h.1
    | succ i => exact h2 i (by simpa using hi) (by simpa using hi')
theorem rowLe_ok (hH : HRep w μ F H) {each : Bool} {a b : Row} {l : Loc} (h : rowLe fz ρ H each a b) (hr : RowRep w μ F l a) : RowRep w (muOf ρ μ) (frOf fz μ F H) l b := by
  have hF : ∀ b, F b → frOf fz μ F H b := fun _ h => .inl h
  unfold rowLe at h
  split at h
  · rename_i sz bs es
    split at h
    · rename_i sz' bs' es'
      obtain ⟨⟨rfl, rfl⟩, h⟩ := h
      obtain ⟨a1, a2, a3, a4, a5⟩ := hr
      have key : es.length = es'.length ∧ ∀ i (hi : i < es.length) (hi' : i < es'.length), es[i].length = es'[i].length ∧ ∀ j (hj : j < es[i].length) (hj' : j < es'[i].length) v, Rep w μ F es[i][j] v → Rep w (muOf ρ μ) (frOf fz μ F H) es'[i][j] v := by
        split at h
        · obtain ⟨k1, k2⟩ := leLL_get h
          refine ⟨k1, fun i hi hi' => ?_⟩
          obtain ⟨k3, k4⟩ := leL_get (k2 i hi hi')
          exact ⟨k3, fun j hj hj' v hv => leK_ok hH hv (k4 j hj hj')⟩
        · obtain ⟨rfl, h⟩ := h
          refine ⟨rfl, fun i hi hi' => ⟨rfl, fun j hj hj' v hv => ?_⟩⟩
          exact .frz ((idf_frz hv (idfL_get (h _ (List.getElem_mem hi)) j hj)).mono (fun _ _ => rfl) hF)
      refine ⟨a1, a2, by omega, by rw [← key.1]; exact a4, ?_⟩
      cases hb : l.b with
      | none =>
        rw [hb] at a5
        obtain ⟨rfl, hc⟩ := a5
        exact ⟨List.eq_nil_of_length_eq_zero key.1.symm, hc⟩
      | some b =>
        rw [hb] at a5
        obtain ⟨c, e, lo, hi, g1, g2, g3, g4⟩ := a5.h
        refine ⟨c, e, lo, hi, g1, g2, g3, fun i hi => ?_⟩
        have hi0 : i < es.length := by omega
        obtain ⟨k1, k2⟩ := key.2 i hi0 hi
        refine ⟨k1 ▸ (g4 i hi0).1, fun j hj => ?_⟩
        obtain ⟨v, v1, v2, v3⟩ := (g4 i hi0).2 j (by omega)
        exact ⟨v, v1, v2, k2 j (by omega) hj v v3⟩
    · trivial
    · exact h.elim
  · rename_i kv
    split at h
    · rename_i kv'
      obtain ⟨rfl, h⟩ := h
      obtain ⟨b, es, ck, g1, g2, g3, g4, g5⟩ := hr
      refine ⟨b, es, ck, g1, g2, g3, fun i hi hi' => ?_, g5⟩
      obtain ⟨k1, k2, k3⟩ := g4 i hi hi'
      have := h _ (List.getElem_mem hi)
      exact ⟨.frz ((idf_frz k1 this.1).mono (fun _ _ => rfl) hF), .frz ((idf_frz k2 this.2).mono (fun _ _ => rfl) hF), k3⟩
    · trivial
    · exact h.elim
  · split at h
    · obtain ⟨rfl, rfl⟩ := h
      exact hr
    · trivial
    · exact h.elim
  · split at h
    · trivial
    · exact h.elim
theorem rowLe_live {each : Bool} {a b : Row} (h : rowLe fz ρ H each a b) (hl : b.live = true) : a.live = true := by
  cases a with
  | cells => rfl
  | map => rfl
  | iter => rfl
  | dead =>
    simp only [rowLe] at h
    split at h
    · cases hl
    · exact h.elim
theorem tempsK_ok {T : TT} : ∀ {l : List (Nat × AV)}, tempsK fz ρ T H l → ∀ t b, ofL l t = some b → ∃ a, T t = some a ∧ leK fz ρ H a b
  | [], _, t, b, h => by cases h
  | (k, c) :: l, h, t, b, hb => by
    obtain ⟨h1, h2⟩ := h
    simp only [ofL] at hb
    by_cases e : t = k
    · subst e
      rw [TT.put_same] at hb
      cases hb
      split at h1
      · exact ⟨_, ‹_›, h1⟩
      · exact h1.elim
    · rw [TT.put_ne _ _ e] at hb
      exact tempsK_ok h2 t b hb
theorem rowsK_ok : ∀ {l : List (Id × Row)}, rowsK fz ρ H l → ∀ r b, ofH l r = some b →
    (∃ e q a, look ρ r = some (.old e q) ∧ H q = some a ∧ rowLe fz ρ H e a b) ∨ (∃ sz bs, look ρ r = some (.new sz bs) ∧ b = .cells sz bs [])
  | [], _, r, b, h => by cases h
  | (k, c) :: l, h, r, b, hb => by
    obtain ⟨h1, h2⟩ := h
    simp only [ofH] at hb
    by_cases e : r = k
    · subst e
      rw [HH.put_same] at hb
      cases hb
      split at h1
      · split at h1
        · exact .inl ⟨_, _, _, ‹_›, ‹_›, h1⟩
        · exact h1.elim
      · split at h1
        · obtain ⟨rfl, rfl⟩ := h1
          exact .inr ⟨_, _, ‹_›, rfl⟩
        · exact h1.elim
      · exact h1.elim
    · rw [HH.put_ne _ _ e] at hb
      exact rowsK_ok h2 r b hb
theorem look_mem : ∀ {l : List (Id × Src)} {r : Id} {s : Src}, look l r = some s → (r, s) ∈ l
  | [], r, s, h => by cases h
  | (k, s') :: l, r, s, h => by
    unfold look at h
    split at h
    · rename_i hi
      cases h
      rw [(ideq_iff _ _).1 hi]
      simp
    · exact List.mem_cons_of_mem _ (look_mem h)
theorem keysIn_ok {HL : List (Id × Row)} : ∀ {l : List (Id × Src)}, keysIn HL l = true → ∀ r s, (r, s) ∈ l → ∃ row, ofH HL r = some row
  | [], _, r, s, h => by cases h
  | (k, s') :: l, h, r, s, hm => by
    simp only [keysIn, Bool.and_eq_true] at h
    rcases List.mem_cons.1 hm with e | hm
    · obtain ⟨rfl, rfl⟩ := Prod.mk.inj e
      obtain ⟨p, hp, hi⟩ := List.any_eq_true.1 h.1
      have he := (ideq_iff _ _).1 hi
      have : ∀ (L : List (Id × Row)), p ∈ L → ∃ row, ofH L r = some row := by
        intro L
        induction L with
        | nil => intro h; cases h
        | cons q L ih =>
          intro hq
          obtain ⟨qk, qv⟩ := q
          simp only [ofH]
          by_cases e : r = qk
          · subst e; exact ⟨_, HH.put_same _ _ _⟩
          · rw [HH.put_ne _ _ e]
            rcases List.mem_cons.1 hq with h | h
            · subst h; exact absurd he.symm e
            · exact ih h
      exact this HL hp
    · exact keysIn_ok h.2 r s hm
theorem dropped_not : ∀ {l : List (Id × Src)} {q : Id}, dropped l q = true → ∀ r e, (r, Src.old e q) ∉ l
  | [], q, _, r, e, h => by cases h
  | (k, s) :: l, q, h, r, e, hm => by
    unfold dropped at h
    split at h
    · cases h
    · rename_i hs
      rcases List.mem_cons.1 hm with he | hm
      · cases he; simp [isOld, ideq_self] at hs
      · exact dropped_not h r e hm
theorem olds_inj : ∀ {l : List (Id × Src)}, olds l = true → ∀ r r' e e' q, look l r = some (.old e q) → look l r' = some (.old e' q) → r = r'
  | [], _, r, r', e, e', q, h, _ => by cases h
  | (k, s) :: l, ho, r, r', e, e', q, h1, h2 => by
    have tail : olds l = true := by
      cases s with
      | old => simp only [olds, Bool.and_eq_true] at ho; exact ho.2
      | new => exact ho
    unfold look at h1 h2
    split at h1
    · rename_i hi
      cases h1
      simp only [olds, Bool.and_eq_true] at ho
      split at h2
      · rename_i hi'
        rw [(ideq_iff _ _).1 hi, (ideq_iff _ _).1 hi']
      · exact absurd (look_mem h2) (dropped_not ho.1 _ _)
    · split at h2
      · cases h2
        simp only [olds, Bool.and_eq_true] at ho
        exact absurd (look_mem h1) (dropped_not ho.1 _ _)
      · exact olds_inj tail r r' e e' q h1 h2
/-- A state seen another way. -/
theorem Sub.of_check (ρ : List (Id × Src)) {T : TT} {TL : List (Nat × AV)} {HL : List (Id × Row)} (h : subK ρ T H TL HL) (h0 : Gen0 ρ H) : Sub T H (ofL TL) (ofH HL) := by
  unfold subK at h
  split at h
  rotate_left
  · exact h.elim
  rename_i c1 c2
  obtain ⟨ht, hr⟩ := h
  intro w μ F tm hH hT
  have mlook : ∀ {r l b}, muOf ρ μ r = some l → l.b = some b → ∃ e q, look ρ r = some (.old e q) ∧ μ q = some l := by
    intro r l b hm hb
    unfold muOf at hm
    split at hm
    · exact ⟨_, _, ‹_›, hm⟩
    · cases hm; cases hb
    · cases hm
  have old : ∀ {r b l bb}, ofH HL r = some b → b.live = true → muOf ρ μ r = some l → l.b = some bb → ∃ e q a, look ρ r = some (.old e q) ∧ μ q = some l ∧ H q = some a ∧ a.live = true := by
    intro r b l bb h1 h2 h3 h4
    obtain ⟨e, q, h5, h6⟩ := mlook h3 h4
    rcases rowsK_ok hr r b h1 with ⟨e', q', a, k1, k2, k3⟩ | ⟨sz, bs, k1, _⟩
    · rw [h5] at k1
      cases k1
      exact ⟨_, _, _, h5, h6, k2, rowLe_live k3 h2⟩
    · rw [h5] at k1; cases k1
  refine ⟨muOf ρ μ, frOf (dropped ρ) μ F H, ⟨fun r b hb => ?_, fun r hn => ?_, fun r r' b b' l l' bb h1 h2 h3 h4 h5 h6 h7 h8 => ?_, fun r b l bb h1 h2 h3 h4 hF => ?_, fun b hb => ?_⟩, fun t b hb => ?_, fun b hb => .inl hb, fun b hb => ?_, fun b hb => ?_, fun r l hz hl => ?_⟩
  · rcases rowsK_ok hr r b hb with ⟨e, q, a, k1, k2, k3⟩ | ⟨sz, bs, k1, rfl⟩
    · obtain ⟨l, g1, g2⟩ := hH.rows q a k2
      exact ⟨l, by simp [muOf, k1, g1], rowLe_ok hH k3 g2⟩
    · exact ⟨⟨none, 0, sz, bs, 0⟩, by simp [muOf, k1], rfl, rfl, by simp, by simp, rfl, rfl⟩
  · unfold muOf
    split
    · obtain ⟨row, hrow⟩ := keysIn_ok c1 _ _ (look_mem ‹_›)
      rw [hn] at hrow; cases hrow
    · obtain ⟨row, hrow⟩ := keysIn_ok c1 _ _ (look_mem ‹_›)
      rw [hn] at hrow; cases hrow
    · rfl
  · obtain ⟨e, q, a, k1, k2, k3, k4⟩ := old h1 h2 h5 h7
    obtain ⟨e', q', a', k1', k2', k3', k4'⟩ := old h3 h4 h6 h8
    obtain rfl := hH.inj q q' a a' l l' bb k3 k4 k3' k4' k2 k2' h7 h8
    exact olds_inj c2 _ _ _ _ _ k1 k1'
  · obtain ⟨e, q, a, k1, k2, k3, k4⟩ := old h1 h2 h3 h4
    rcases hF with hF | ⟨r2, row2, l2, d1, d2, d3, d4, d5⟩
    · exact hH.disj q a l bb k3 k4 k2 h4 hF
    · obtain rfl := hH.inj q r2 a row2 l l2 bb k3 k4 d2 d3 k2 d4 h4 d5
      exact dropped_not d1 _ _ (look_mem k1)
  · rcases hb with hb | ⟨r2, row2, l2, d1, d2, d3, d4, d5⟩
    · exact hH.lt b hb
    · exact hH.row_lt ⟨r2, row2, l2, d2, d3, d4, d5⟩
  · obtain ⟨a, h1, h2⟩ := tempsK_ok ht t b hb
    exact ⟨⟨a, h1⟩, leK_ok hH (hT t a h1) h2⟩
  · rcases hb with hb | ⟨r2, row2, l2, d1, d2, d3, d4, d5⟩
    · exact .inl hb
    · exact .inr ⟨r2, row2, l2, d2, d3, d4, d5⟩
  · obtain ⟨r, row, l, h1, h2, h3, h4⟩ := hb
    obtain ⟨e, q, a, k1, k2, k3, k4⟩ := old h1 h2 h3 h4
    exact ⟨q, a, l, k3, k4, k2, h4⟩
  · have hne : H r ≠ none := fun hn => by rw [hH.dom r hn] at hl; cases hl
    obtain ⟨e, he⟩ := h0 r hz hne
    simp [muOf, he, hl]
/-- A value, all of whose rows are let go, as memory that nobody writes. -/
theorem Ent.of_check {a b : AV} (h : leK (dropped []) [] H a b) (hb : idf b = true) : Ent H a b := by
  intro w μ F v hH hv
  refine (idf_frz (leK_ok hH hv h) hb).mono (fun _ _ => rfl) fun b hb => ?_
  rcases hb with hb | ⟨r, row, l, _, d2, d3, d4, d5⟩
  · exact .inl hb
  · exact .inr ⟨r, row, l, d2, d3, d4, d5⟩
/-- A value that names no row, seen another way. -/
theorem EntS.of_check {a b : AV} (h : leF a b) (ha : idf a = true) : EntS a b := fun _ _ _ _ hv => leF_ok (fun _ h => h) h (idf_frz hv ha)
theorem EntS.same {a : AV} (ha : idf a = true) : EntS a a := fun _ _ _ _ hv => idf_frz hv ha
end
end Go.Eng
/- Small laws for the walks. -/
namespace Go.Eng
theorem Gen0.emp {ρ : List (Id × Src)} : Gen0 ρ HH.emp := fun r _ h => absurd rfl h
theorem Gen0.put {ρ : List (Id × Src)} {H : HH} {k : Id} {v : Row} (h : Gen0 ρ H) (hk : k.1 ≠ 0) : Gen0 ρ (H.put k v) := by
  intro r h0 hr
  have hne : r ≠ k := fun e => hk (e ▸ h0)
  rw [HH.put_ne _ _ hne] at hr
  exact h r h0 hr
theorem Gen0.put0 {ρ : List (Id × Src)} {H : HH} {k : Id} {v : Row} (h : Gen0 ρ H) (hk : ∃ e, look ρ k = some (.old e k)) : Gen0 ρ (H.put k v) := by
  intro r h0 hr
  by_cases e : r = k
  · subst e; exact hk
  · rw [HH.put_ne _ _ e] at hr
    exact h r h0 hr
theorem Gen0.ofH {ρ : List (Id × Src)} : ∀ {L : List (Id × Row)}, L.all (fun p => !Nat.beq p.1.1 0) = true → Gen0 ρ (ofH L)
  | [], _ => Gen0.emp
  | (k, v) :: L, h => by
    simp only [List.all_cons, Bool.and_eq_true] at h
    exact Gen0.put (Gen0.ofH h.2) fun e => by rw [e] at h; simp at h
theorem idfL_cells (g : GV) : idfL g.cells = true := rfl
theorem idfL_fcells (g : ByteArray × GV) : idfL (fcells g) = true := rfl
theorem GV.sizeOf_list {k n : Int} {t : ByteArray} {l : List GV} {d : List (ByteArray × GV)} {g : GV} (h : g ∈ l) : SizeOf.sizeOf g < SizeOf.sizeOf (GV.mk k n t l d) := by
  have := List.sizeOf_lt_of_mem h
  simp
  omega
theorem GV.sizeOf_doc {k n : Int} {t : ByteArray} {l : List GV} {d : List (ByteArray × GV)} {g : ByteArray × GV} (h : g ∈ d) : SizeOf.sizeOf g.2 < SizeOf.sizeOf (GV.mk k n t l d) := by
  have := List.sizeOf_lt_of_mem h
  cases g
  simp at this ⊢
  omega
theorem wrap64 {x : Int} (h1 : -9223372036854775808 ≤ x) (h2 : x < 9223372036854775808) : IntKind.i64.wrap x = x := by
  simp only [IntKind.wrap, IntKind.signed, IntKind.bits]
  simp
  omega
theorem wrap_succ {i n : Nat} (h : i < n) (hn : n ≤ R) : IntKind.i64.wrap ((i : Int) + 1) = ((i + 1 : Nat) : Int) := by
  rw [wrap64 (by omega) (by simp only [R] at hn; omega)]
  omega
theorem take_snoc {α β : Type} [Inhabited α] (f : α → β) {l : List α} {i : Nat} (h : i < l.length) : (((l.take i).map f).drop 0).take i ++ [f (l.getD i default)] = (l.take (i + 1)).map f := by
  rw [List.drop_zero, List.take_of_length_le (by simp; omega)]
  have : l.take (i + 1) = l.take i ++ [l[i]] := by rw [List.take_append_getElem]
  rw [this, List.map_append]
  simp [h]
theorem idfL_map {α : Type} {f : α → List AV} (hf : ∀ a, idfL (f a) = true) (l : List α) : ∀ e, e ∈ l.map f → idfL e = true := by
  intro e he
  obtain ⟨a, _, rfl⟩ := List.mem_map.1 he
  exact hf a
theorem le_of_mul {n k : Nat} (h : n * (k + 1) ≤ R) : n ≤ R := Nat.le_trans (Nat.le_mul_of_pos_right _ (Nat.succ_pos k)) h
theorem frz_map {α : Type} [Inhabited α] {f : α → List AV} (hf : ∀ a, idfL (f a) = true) {l : List α} {n : Nat} (hn : n ≤ l.length) : ∀ i, i < n → ((l.take n).map f).getD (0 + i) [] = f (l.getD i default) ∧ idfL (f (l.getD i default)) = true := by
  intro i hi
  refine ⟨?_, hf _⟩
  have h2 : i < l.length := by omega
  simp [List.getD_eq_getElem?_getD, List.getElem?_take, hi, h2]
theorem dT {p : Prop} {i : Decidable p} : (@decide p i = true) ↔ p := ⟨of_decide_eq_true, decide_eq_true⟩
theorem dF {p : Prop} {i : Decidable p} : (@decide p i = false) ↔ ¬ p := ⟨of_decide_eq_false, decide_eq_false⟩
theorem none_some {α : Type} {x : Option α} : ∀ m, (none : Option α) = some m → x = some m := fun _ h => by cases h
end Go.Eng
/- Calls of functions that only compute, in a walk. -/
namespace Go.Eng
theorem EntS.of_leK {a b : AV} (h : leK (dropped []) [] HH.emp a b) (ha : idf a = true) (hb : idf b = true) : EntS a b := by
  intro w μ F v hv
  have := leK_frz (fz := dropped []) (ρ := []) (H := HH.emp) (μ := μ) (idf_frz hv ha) h
  refine (idf_frz this hb).mono (fun _ _ => rfl) fun b hb => ?_
  rcases hb with hb | ⟨r, row, l, _, h, _⟩
  · exact hb
  · simp [HH.emp] at h
def leKL (ρ : List (Id × Src)) (H : HH) : List AV → List AV → Prop := leK.leL (dropped ρ) ρ H
theorem EntSL.of_leK : ∀ {l m : List AV}, leKL [] HH.emp l m → idfL l = true → idfL m = true → EntSL l m
  | [], [], _, _, _ => trivial
  | [], _ :: _, h, _, _ => by simp only [leKL, leK.leL] at h
  | _ :: _, [], h, _, _ => by simp only [leKL, leK.leL] at h
  | a :: l, b :: m, h, h1, h2 => by
    simp only [leKL, leK.leL] at h
    simp only [idfL, idf.idfL, Bool.and_eq_true] at h1 h2
    exact ⟨EntS.of_leK h.1 h1.1 h2.1, EntSL.of_leK h.2 h1.2 h2.2⟩
theorem EntSL.same : ∀ {l : List AV}, idfL l = true → EntSL l l
  | [], _ => trivial
  | a :: l, h => by
    simp only [idfL, idf.idfL, Bool.and_eq_true] at h
    exact ⟨EntS.same h.1, EntSL.same h.2⟩
/-- A function that only computes, called in a plain region. -/
theorem call_pure {cx : Cx} {f : FuncId} {args args0 : List AV} {H : HH} {v : AV} {K KP : AV → HH → Prop} (h : PSpec cx f args0 (.ret v)) (he : EntSL args args0) (hk : K v H) : CallW cx false f args H K KP :=
  ⟨_, PCall.spec ⟨args0, h, .inl he⟩, fun o H' ⟨ho, hH⟩ => by subst ho; subst hH; exact hk⟩
/-- The same in a drawing region. -/
theorem call_quiet {cx : Cx} {f : FuncId} {args args0 : List AV} {H : HH} {v : AV} {K KP : AV → HH → Prop} (h : PSpec cx f args0 (.ret v)) (he : EntSL args args0) (hk : K v H) : CallW cx true f args H K KP := ⟨args0, v, h, he, hk⟩
/-- The same, handed just what its law says. -/
theorem call_same {cx : Cx} {q : Bool} {f : FuncId} {args : List AV} {H : HH} {v : AV} {K KP : AV → HH → Prop} (h : PSpec cx f args (.ret v)) (he : idfL args = true) (hk : K v H) : CallW cx q f args H K KP := by
  cases q
  · exact call_pure h (EntSL.same he) hk
  · exact call_quiet h (EntSL.same he) hk
theorem call_le {cx : Cx} {q : Bool} {f : FuncId} {args args0 : List AV} {H : HH} {v : AV} {K KP : AV → HH → Prop} (h : PSpec cx f args0 (.ret v)) (hl : leKL [] HH.emp args args0) (h1 : idfL args = true) (h2 : idfL args0 = true) (hk : K v H) : CallW cx q f args H K KP := by
  cases q
  · exact call_pure h (EntSL.of_leK hl h1 h2) hk
  · exact call_quiet h (EntSL.of_leK hl h1 h2) hk
theorem RegP.enter {A X Y : Prop} (h : X) : RegP (A → X) Y := .go fun _ => h
theorem DrawP.range {cx : Cx} {nt g : Nat} {ops : Array Oper} {T : TT} {H : HH} {K : TT → HH → Prop} {KP : AV → HH → Prop} {Y : Prop} (h1 : orderOk cx (fun _ => true) ops (List.range ops.size) = true) (h2 : WL cx nt g (fun _ => true) ops (List.range ops.size) T H K KP) :
    DrawP (∃ q ord, orderOk cx q ops ord = true ∧ WL cx nt g q ops ord T H K KP) Y := .ord ⟨_, _, h1, h2⟩
theorem DrawP.rangeQ {cx : Cx} {nt g : Nat} {ops : Array Oper} {T : TT} {H : HH} {K : TT → HH → Prop} {KP : AV → HH → Prop} {Y : Prop} (q : Nat → Bool) (h1 : orderOk cx q ops (List.range ops.size) = true) (h2 : WL cx nt g q ops (List.range ops.size) T H K KP) :
    DrawP (∃ q ord, orderOk cx q ops ord = true ∧ WL cx nt g q ops ord T H K KP) Y := .ord ⟨_, _, h1, h2⟩
theorem br {b : Bool} {X Y : Prop} : (b = true → X) → (b = false → Y) → (match b with | true => X | false => Y) := by
  intro h1 h2
  cases b
  · exact h2 rfl
  · exact h1 rfl
theorem lt0 {α : Type} {f g : Nat → α} : ∀ i, i < 0 → f i = g i := fun _ h => absurd h (Nat.not_lt_zero _)
theorem lt1 {α : Type} {f g : Nat → α} (h0 : f 0 = g 0) : ∀ i, i < 1 → f i = g i := by
  intro i h
  match i, h with
  | 0, _ => exact h0
theorem lt2 {α : Type} {f g : Nat → α} (h0 : f 0 = g 0) (h1 : f 1 = g 1) : ∀ i, i < 2 → f i = g i := by
  intro i h
  match i, h with
  | 0, _ => exact h0
  | 1, _ => exact h1
theorem lt3 {α : Type} {f g : Nat → α} (h0 : f 0 = g 0) (h1 : f 1 = g 1) (h2 : f 2 = g 2) : ∀ i, i < 3 → f i = g i := by
  intro i h
  match i, h with
  | 0, _ => exact h0
  | 1, _ => exact h1
  | 2, _ => exact h2
end Go.Eng
/- Functions that are handed rows of their caller's; calls of them. -/
namespace Go.Eng
/-- Names turned. -/
def renAV (m : Id → Id) : AV → AV
  | .row r o n c => .row (m r) o n c
  | .ptr r i j => .ptr (m r) i j
  | .mref r => .mref (m r)
  | .clo fn a b => .clo fn (renL a) (renL b)
  | .ifc t v => .ifc t (renAV m v)
  | .agg l => .agg (renL l)
  | .tup l => .tup (renL l)
  | a => a
where renL : List AV → List AV
  | [] => []
  | a :: l => renAV m a :: renL l
abbrev renL (m : Id → Id) := renAV.renL m
def renLL (m : Id → Id) : List (List AV) → List (List AV)
  | [e] => [renL m e]
  | es => es.map (renL m)
def renRow (m : Id → Id) : Row → Row
  | .cells sz bs es => .cells sz bs (renLL m es)
  | .map kv => .map (kv.map fun p => (renAV m p.1, renAV m p.2))
  | .iter s p => .iter s p
  | .dead => .dead
def renOut (m : Id → Id) : Out → Out | .ret v => .ret (renAV m v) | .pan v => .pan (renAV m v)
/-- A function that is handed rows: they have names of generation 0; what comes of them, and of new ones. -/
def MSpec (cx : Cx) (f : FuncId) (args : List AV) (L : List (Id × Row)) {ι : Type} (O : ι → Out) (L' : ι → List (Id × Row)) : Prop :=
  ∀ w μ F vs, HRep w μ F (ofH L) → GOK cx w F → All2 (Rep w μ F) args vs →
    CallsX cx.P f vs w fun e w' => ∃ x μ' F', EndR w' μ' F' (O x) e ∧ HRep w' μ' F' (ofH (L' x)) ∧ GOK cx w' F' ∧ FrB w μ F (ofH L) w' μ' F' (ofH (L' x))
def oneT (v : AV) : TT := TT.emp.put 0 v
def retM {ι : Type} (O : ι → Out) (L' : ι → List (Id × Row)) (v : AV) (H : HH) : Prop := ∃ x u, O x = .ret u ∧ Sub (oneT v) H (ofL [(0, u)]) (ofH (L' x))
def panM {ι : Type} (O : ι → Out) (L' : ι → List (Id × Row)) (v : AV) (H : HH) : Prop := ∃ x u, O x = .pan u ∧ Sub (oneT v) H (ofL [(0, u)]) (ofH (L' x))
theorem FrB.sub {w μ F H w1 μ1 F1 H1 μ2 F2 H2} (f : FrB w μ F H w1 μ1 F1 H1) (h3 : ∀ b, F1 b → F2 b) (h4 : ∀ b, F2 b → F1 b ∨ Lv μ1 H1 b) (h5 : ∀ b, Lv μ2 H2 b → Lv μ1 H1 b) (h6 : ∀ r l, r.1 = 0 → μ1 r = some l → μ2 r = some l) : FrB w μ F H w1 μ2 F2 H2 :=
  ⟨f.os, f.tape, f.output, f.size, f.keep, fun r l h0 h => h6 r l h0 (f.mu r l h0 h), fun b hb => h3 b (f.fr b hb), fun b hb => (h4 b hb).elim (f.fr' b) (fun h => (f.lv b h).elim (fun h => .inr (.inl h)) fun h => .inr (.inr h)), fun b hb => f.lv b (h5 b hb)⟩
theorem MSpec.of_WC {cx : Cx} (ok : CxOK cx) {f : FuncId} {fn : Func} {c : Code} (hf : cx.P.funcs[f]? = some fn) (hb : fn.body = some c) (hcall : ∀ (vs : Array Value) (w : World), (callFunc f vs).run cx.P w = .ok (.enter f vs) w)
    {args : List AV} {L : List (Id × Row)} {g : Nat} (hn : args.length ≤ fn.ntmps) {ι : Type} {O : ι → Out} {L' : ι → List (Id × Row)} (hk : WC cx fn.ntmps g c (argT 0 args) (ofH L) (endK cx fn (retM O L') (panM O L'))) :
    MSpec cx f args L O L' := by
  intro w μ F vs hH hG ha
  have hc := body_sound ok hf hb hcall hn hk hH hG ha
  have fin : ∀ (e : Ending) (w' : World), (∃ o' H' μ' F', (match o' with | .ret v => retM O L' v H' | .pan v => panM O L' v H') ∧ EndR w' μ' F' o' e ∧ HRep w' μ' F' H' ∧ GOK cx w' F' ∧ FrB w μ F (ofH L) w' μ' F' H') →
      ∃ x μ' F', EndR w' μ' F' (O x) e ∧ HRep w' μ' F' (ofH (L' x)) ∧ GOK cx w' F' ∧ FrB w μ F (ofH L) w' μ' F' (ofH (L' x)) := by
    rintro e w' ⟨o', H', μ', F', h1, h2, h3, h4, h5⟩
    have use : ∀ {v u : AV} {x : ι} {y : Value}, Sub (oneT v) H' (ofL [(0, u)]) (ofH (L' x)) → Rep w' μ' F' v y → ∃ μ2 F2, Rep w' μ2 F2 u y ∧ HRep w' μ2 F2 (ofH (L' x)) ∧ GOK cx w' F2 ∧ FrB w μ F (ofH L) w' μ2 F2 (ofH (L' x)) := by
      intro v u x y hs hr
      obtain ⟨μ2, F2, k1, k2, k3, k4, k5, k6⟩ := hs w' μ' F' (fun _ => y) h3 (fun t av ht => by
        by_cases e : t = 0
        · subst e; simp only [oneT, TT.put_same] at ht; cases ht; exact hr
        · simp only [oneT] at ht; rw [TT.put_ne _ _ e] at ht; cases ht)
      exact ⟨μ2, F2, (k2 0 u (by simp only [ofL, TT.put_same])).2, k1, h4.mono (fun _ _ => rfl) k3, h5.sub k3 k4 k5 k6⟩
    cases h2 with
    | ret hr =>
      obtain ⟨x, u, hx, hs⟩ := h1
      obtain ⟨μ2, F2, k1, k2, k3, k4⟩ := use hs hr
      exact ⟨x, μ2, F2, hx ▸ .ret k1, k2, k3, k4⟩
    | pan hr =>
      obtain ⟨x, u, hx, hs⟩ := h1
      obtain ⟨μ2, F2, k1, k2, k3, k4⟩ := use hs hr
      exact ⟨x, μ2, F2, hx ▸ .pan k1, k2, k3, k4⟩
  unfold CallsX at hc ⊢
  split at hc
  · exact hc.mono fun e w' h => fin e w' h
  · exact fin _ _ hc
  · exact hc.mono fun v w' h => fin _ _ h
  · exact fin _ _ hc
  · exact hc.elim
end Go.Eng
/- Calls of functions that are handed rows: sound. -/
namespace Go.Eng
def nofz : Id → Bool := fun _ => false
/-- The callee's name of a row, as the caller's. -/
def backM (ρ : List (Id × Src)) (g d : Nat) (r : Id) : Id := match look ρ r with
  | some (.old _ q) => q
  | _ => (g, d, r.2.1 + 1)
def updH (m : Id → Id) (H : HH) : List (Id × Row) → HH
  | [] => H
  | (k, v) :: l => (updH m H l).put (m k) (renRow m v)
def allOld : List (Id × Src) → Bool
  | [] => true
  | (k, .old _ _) :: l => Nat.beq k.1 0 && allOld l
  | (_, .new ..) :: _ => false
/-- The rows behind the call: those handed on, and new ones. -/
def newOk (ρ : List (Id × Src)) (H : HH) (g d : Nat) : List (Id × Row) → Prop
  | [] => True
  | (k, _) :: l => (match look ρ k with
    | some _ => True
    | none => match Nat.beq k.1 1, Nat.beq k.2.2 0, H (g, d, k.2.1 + 1) with
      | true, true, none => True
      | _, _, _ => False) ∧ newOk ρ H g d l
def muBack (m : Id → Id) (μ' μ : Id → Option Loc) : List (Id × Row) → Id → Option Loc
  | [], r => μ r
  | (k, _) :: l, r => match ideq (m k) r with | true => μ' k | false => muBack m μ' μ l r
theorem frOf_no {μ : Id → Option Loc} {F : Nat → Prop} {H : HH} : frOf nofz μ F H = F := by
  funext b
  simp [frOf, nofz]
section
variable {ρ : List (Id × Src)} {H : HH} {g d : Nat} {L' : List (Id × Row)} {μ μ' : Id → Option Loc}
theorem ofH_mem : ∀ {l : List (Id × Row)} {k : Id} {v : Row}, ofH l k = some v → ∃ v', (k, v') ∈ l
  | [], k, v, h => by cases h
  | (j, u) :: l, k, v, h => by
    simp only [ofH] at h
    by_cases e : k = j
    · subst e; exact ⟨u, by simp⟩
    · rw [HH.put_ne _ _ e] at h
      obtain ⟨v', h'⟩ := ofH_mem h
      exact ⟨v', by simp [h']⟩
theorem mem_ofH : ∀ {l : List (Id × Row)} {k : Id} {v : Row}, (k, v) ∈ l → ∃ v', ofH l k = some v'
  | [], k, v, h => by cases h
  | (j, u) :: l, k, v, h => by
    simp only [ofH]
    by_cases e : k = j
    · subst e; exact ⟨u, HH.put_same _ _ _⟩
    · rw [HH.put_ne _ _ e]
      rcases List.mem_cons.1 h with h | h
      · cases h; exact absurd rfl e
      · exact mem_ofH h
/-- The names that the callee's rows get are apart. -/
def InjOn (m : Id → Id) (l : List (Id × Row)) : Prop := ∀ k k' v v', (k, v) ∈ l → (k', v') ∈ l → m k = m k' → k = k'
theorem updH_in {m : Id → Id} : ∀ {l : List (Id × Row)}, InjOn m l → ∀ k b, ofH l k = some b → updH m H l (m k) = some (renRow m b)
  | [], _, k, b, h => by cases h
  | (j, u) :: l, hi, k, b, h => by
    simp only [ofH] at h
    simp only [updH]
    by_cases e : k = j
    · subst e
      rw [HH.put_same] at h ⊢
      cases h; rfl
    · rw [HH.put_ne _ _ e] at h
      obtain ⟨v', hm⟩ := ofH_mem h
      rw [HH.put_ne _ _ fun h2 => e (hi k j v' u (by simp [hm]) (by simp) h2)]
      exact updH_in (fun a a' v v' h1 h2 => hi a a' v v' (by simp [h1]) (by simp [h2])) k b h
theorem updH_out {m : Id → Id} : ∀ {l : List (Id × Row)} {r : Id}, (∀ k v, (k, v) ∈ l → m k ≠ r) → updH m H l r = H r
  | [], r, _ => rfl
  | (j, u) :: l, r, h => by
    simp only [updH]
    rw [HH.put_ne _ _ fun e => h j u (by simp) e.symm]
    exact updH_out fun k v hk => h k v (by simp [hk])
theorem muBack_in {m : Id → Id} : ∀ {l : List (Id × Row)}, InjOn m l → ∀ k v, (k, v) ∈ l → muBack m μ' μ l (m k) = μ' k
  | [], _, k, v, h => by cases h
  | (j, u) :: l, hi, k, v, h => by
    unfold muBack
    split
    · rename_i hj
      have := hi j k u v (by simp) h ((ideq_iff _ _).1 hj)
      rw [this]
    · rename_i hj
      rcases List.mem_cons.1 h with h | h
      · cases h; simp [ideq_self] at hj
      · exact muBack_in (fun a a' v v' h1 h2 => hi a a' v v' (by simp [h1]) (by simp [h2])) k v h
theorem muBack_out {m : Id → Id} : ∀ {l : List (Id × Row)} {r : Id}, (∀ k v, (k, v) ∈ l → m k ≠ r) → muBack m μ' μ l r = μ r
  | [], r, _ => rfl
  | (j, u) :: l, r, h => by
    unfold muBack
    rw [ideq_ne (h j u (by simp))]
    exact muBack_out fun k v hk => h k v (by simp [hk])
theorem ren_rep {w : World} {F : Nat → Prop} {m : Id → Id} {μ1 : Id → Option Loc} (hm : ∀ r l, μ' r = some l → μ1 (m r) = some l) {a : AV} {v : Value} (h : Rep w μ' F a v) : Rep w μ1 F (renAV m a) v := by
  have len : ∀ {l : List AV}, (renL m l).length = l.length := by
    intro l
    induction l with
    | nil => rfl
    | cons a l ih => simp [renL, renAV.renL] at ih ⊢; exact ih
  have get : ∀ {l : List AV} (i : Nat) (hi : i < (renL m l).length), (renL m l)[i] = renAV m (l[i]'(by rw [len] at hi; exact hi)) := by
    intro l
    induction l with
    | nil => intro i hi; simp [renL, renAV.renL] at hi
    | cons a l ih =>
      intro i hi
      cases i with
      | zero => rfl
      | succ i => exact ih i (by simpa [renL, renAV.renL] using hi)
  have frzCase : ∀ {a : AV} {v : Value}, RepF w F a v → RepF w F (renAV m a) v := by
    intro a v h
    induction h with
    | lit h => exact .lit h
    | top h => exact .top h
    | fsE h => exact .fsE h
    | fs vs h1 h2 h3 h4 h5 h6 h7 h8 => exact .fs vs h1 h2 h3 h4 h5 h6 h7 h8
    | fp vs h1 h2 h3 h4 h5 => exact .fp vs h1 h2 h3 h4 h5
    | lz h1 => exact .lz h1
    | ifc _ ih => exact .ifc ih
    | agg h1 h2 ih => exact .agg (by rw [← h1]; exact len) fun i hi hi' => by rw [get i hi]; exact ih i _ hi'
    | tup h1 h2 ih => exact .tup (by rw [← h1]; exact len) fun i hi hi' => by rw [get i hi]; exact ih i _ hi'
    | clo h1 h2 h3 h4 i3 i4 => exact .clo (by rw [← h1]; exact len) (by rw [← h2]; exact len) (fun i hi hi' => by rw [get i hi]; exact i3 i _ hi') (fun i hi hi' => by rw [get i hi]; exact i4 i _ hi')
  induction h with
  | frz h => exact .frz (frzCase h)
  | row0 h1 h2 h3 => exact .row0 (hm _ _ h1) h2 h3
  | row h1 h2 h3 h4 h5 h6 h7 => exact .row (hm _ _ h1) h2 h3 h4 h5 h6 h7
  | ptr h1 h2 => exact .ptr (hm _ _ h1) h2
  | mref h1 h2 => exact .mref (hm _ _ h1) h2
  | ifc _ ih => exact .ifc ih
  | agg h1 h2 ih => exact .agg (by rw [← h1]; exact len) fun i hi hi' => by rw [get i hi]; exact ih i _ hi'
  | tup h1 h2 ih => exact .tup (by rw [← h1]; exact len) fun i hi hi' => by rw [get i hi]; exact ih i _ hi'
  | clo h1 h2 h3 h4 i3 i4 => exact .clo (by rw [← h1]; exact len) (by rw [← h2]; exact len) (fun i hi hi' => by rw [get i hi]; exact i3 i _ hi') (fun i hi hi' => by rw [get i hi]; exact i4 i _ hi')
theorem renL_len {m : Id → Id} : ∀ {l : List AV}, (renL m l).length = l.length
  | [] => rfl
  | a :: l => by simp [renL, renAV.renL]; exact renL_len (m := m) (l := l)
theorem renL_get {m : Id → Id} : ∀ {l : List AV} (i : Nat) (hi : i < (renL m l).length), (renL m l)[i] = renAV m (l[i]'(by rw [renL_len] at hi; exact hi))
  | [], i, hi => by simp [renL, renAV.renL] at hi
  | a :: l, 0, hi => rfl
  | a :: l, i + 1, hi => renL_get (l := l) i (by simpa [renL, renAV.renL] using hi)
theorem renLL_eq (m : Id → Id) (es : List (List AV)) : renLL m es = es.map (renL m) := by
  unfold renLL; split <;> simp
theorem renRow_rep {w : World} {F : Nat → Prop} {m : Id → Id} {μ1 : Id → Option Loc} (hm : ∀ r l, μ' r = some l → μ1 (m r) = some l) {l : Loc} {b : Row} (h : RowRep w μ' F l b) : RowRep w μ1 F l (renRow m b) := by
  cases b with
  | dead => trivial
  | cells sz bs es =>
    obtain ⟨a1, a2, a3, a4, a5⟩ := h
    simp only [renRow, renLL_eq]
    refine ⟨a1, a2, by simpa using a3, by simpa using a4, ?_⟩
    cases hb : l.b with
    | none => rw [hb] at a5; exact ⟨by rw [a5.1]; rfl, a5.2⟩
    | some b =>
      rw [hb] at a5
      obtain ⟨c, e, lo, hi, g1, g2, g3, g4⟩ := a5.h
      refine ⟨c, e, lo, hi, g1, g2, g3, fun i hi => ?_⟩
      have hi0 : i < es.length := by simpa using hi
      obtain ⟨k1, k2⟩ := g4 i hi0
      simp only [List.getElem_map]
      refine ⟨by rw [renL_len]; exact k1, fun j hj => ?_⟩
      obtain ⟨v, v1, v2, v3⟩ := k2 j (by rw [renL_len] at hj; exact hj)
      exact ⟨v, v1, v2, by rw [renL_get j hj]; exact ren_rep hm v3⟩
  | map kv =>
    obtain ⟨b, es, ck, g1, g2, g3, g4, g5⟩ := h
    simp only [renRow]
    refine ⟨b, es, ck, g1, g2, by simpa using g3, fun i hi hi' => ?_, g5⟩
    obtain ⟨k1, k2, k3⟩ := g4 i (by simpa using hi) hi'
    simp only [List.getElem_map]
    exact ⟨ren_rep hm k1, ren_rep hm k2, k3⟩
  | iter s p => exact h
theorem renRow_live {m : Id → Id} {b : Row} : (renRow m b).live = b.live := by cases b <;> rfl
end
end Go.Eng

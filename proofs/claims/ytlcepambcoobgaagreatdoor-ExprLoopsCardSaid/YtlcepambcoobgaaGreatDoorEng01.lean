/- Eng01: an engine for the program's code, and walks of its functions (S0 D E). -/
import Derived.Test.YtlcepambcoobgaaGreatDoorEng00
import Derived.CallsIn
import Derived.Deep.MidRow
import Derived.Deep.AppendSrc
import Derived.Laws.IdiomStrings
/- A state of the evaluator and one of the machine. -/
namespace Go.Eng
/-- The frame since the function's entry; names of generation 0 stay. -/
structure FrB (w : World) (μ : Id → Option Loc) (F : Nat → Prop) (H : HH) (w' : World) (μ' : Id → Option Loc) (F' : Nat → Prop) (H' : HH) : Prop where
  os : w'.os = w.os
  tape : w'.tape = w.tape
  output : w'.output = w.output
  size : w.heap.size ≤ w'.heap.size
  keep : ∀ b, b < w.heap.size → ¬ Lv μ H b → w'.heap[b]? = w.heap[b]?
  mu : ∀ r l, r.1 = 0 → μ r = some l → μ' r = some l
  fr : ∀ b, F b → F' b
  fr' : ∀ b, F' b → F b ∨ w.heap.size ≤ b ∨ Lv μ H b
  lv : ∀ b, Lv μ' H' b → w.heap.size ≤ b ∨ Lv μ H b
theorem FrB.step {w μ F H w1 μ1 F1 H1 w2 μ2 F2 H2} (a : FrB w μ F H w1 μ1 F1 H1) (b : Fr w1 μ1 F1 H1 w2 μ2 F2 H2) : FrB w μ F H w2 μ2 F2 H2 where
  os := b.os.trans a.os
  tape := b.tape.trans a.tape
  output := b.output.trans a.output
  size := Nat.le_trans a.size b.size
  keep := fun i hi hl => (b.keep i (Nat.lt_of_lt_of_le hi a.size) (fun h => (a.lv i h).elim (fun h => by omega) hl)).trans (a.keep i hi hl)
  mu := fun r l h0 h => b.mu r l (a.mu r l h0 h)
  fr := fun i h => b.fr i (a.fr i h)
  fr' := fun i h => (b.fr' i h).elim (fun h => a.fr' i h) (fun h => h.elim (fun h => .inr (.inl (Nat.le_trans a.size h))) (fun h => .inr (a.lv i h)))
  lv := fun i h => (b.lv i h).elim (fun h => .inl (Nat.le_trans a.size h)) (fun h => a.lv i h)
theorem FrB.trans {w μ F H w1 μ1 F1 H1 w2 μ2 F2 H2} (a : FrB w μ F H w1 μ1 F1 H1) (b : FrB w1 μ1 F1 H1 w2 μ2 F2 H2) : FrB w μ F H w2 μ2 F2 H2 where
  os := b.os.trans a.os
  tape := b.tape.trans a.tape
  output := b.output.trans a.output
  size := Nat.le_trans a.size b.size
  keep := fun i hi hl => (b.keep i (Nat.lt_of_lt_of_le hi a.size) (fun h => (a.lv i h).elim (fun h => by omega) hl)).trans (a.keep i hi hl)
  mu := fun r l h0 h => b.mu r l h0 (a.mu r l h0 h)
  fr := fun i h => b.fr i (a.fr i h)
  fr' := fun i h => (b.fr' i h).elim (fun h => a.fr' i h) (fun h => h.elim (fun h => .inr (.inl (Nat.le_trans a.size h))) (fun h => .inr (a.lv i h)))
  lv := fun i h => (b.lv i h).elim (fun h => .inl (Nat.le_trans a.size h)) (fun h => a.lv i h)
structure Entry where
  w : World
  μ : Id → Option Loc
  F : Nat → Prop
  H : HH
  ds : List Deferred
  col : Bool := false
def colD (D : Nat) : Deferred := { target := .collected D, args := #[] }
/-- The deferred calls: the entry's, and ahead of them the marks of ranges over functions. -/
structure Marks (E : Entry) (ds : List Deferred) (w : World) (μ : Id → Option Loc) (F : Nat → Prop) (H : HH) : Prop where
  e : E.col = false → ds = E.ds
  m : ∃ Ds : List Nat, ds = Ds.map colD ++ E.ds ∧ Ds.Nodup ∧ ∀ D, D ∈ Ds → E.w.heap.size ≤ D ∧ D < w.heap.size ∧ ¬ F D ∧ ¬ Lv μ H D ∧ w.heap[D]? = some (.deferred (some []))
theorem Marks.step {E : Entry} {ds w μ F H w' μ' F' H'} (m : Marks E ds w μ F H) (f : Fr w μ F H w' μ' F' H') : Marks E ds w' μ' F' H' := by
  refine ⟨m.e, ?_⟩
  obtain ⟨Ds, h1, h2, h3⟩ := m.m
  refine ⟨Ds, h1, h2, fun D hD => ?_⟩
  obtain ⟨a, b, c, d, e⟩ := h3 D hD
  exact ⟨a, Nat.lt_of_lt_of_le b f.size, fun h => (f.fr' D h).elim c fun h => h.elim (fun h => by omega) d, fun h => (f.lv D h).elim (fun h => by omega) d, (f.keep D b d).trans e⟩
theorem Marks.sub {E : Entry} {ds w μ F H μ' F' H'} (m : Marks E ds w μ F H) (h4 : ∀ b, F' b → F b ∨ Lv μ H b) (h5 : ∀ b, Lv μ' H' b → Lv μ H b) : Marks E ds w μ' F' H' := by
  refine ⟨m.e, ?_⟩
  obtain ⟨Ds, h1, h2, h3⟩ := m.m
  refine ⟨Ds, h1, h2, fun D hD => ?_⟩
  obtain ⟨a, b, c, d, e⟩ := h3 D hD
  exact ⟨a, b, fun h => (h4 D h).elim c d, fun h => d (h5 D h), e⟩
theorem Marks.none {E : Entry} {w μ F H} : Marks E E.ds w μ F H := ⟨fun _ => rfl, [], rfl, List.nodup_nil, fun _ h => by cases h⟩
def TOKs (w : World) (μ : Id → Option Loc) (F : Nat → Prop) (T : TT) (a : Act) : Prop := ∀ t av, T t = some av → Rep w μ F av (a.tmps.getD t undef)
/-- A state of the evaluator and one of the machine. -/
structure SimX (cx : Cx) (nt : Nat) (E : Entry) (T : TT) (H : HH) (a : Act) (w : World) (μ : Id → Option Loc) (F : Nat → Prop) : Prop where
  h : HRep w μ F H
  g : GOK cx w F
  t : TOKs w μ F T a
  b : ∀ t av, T t = some av → t < nt
  n : a.tmps.size = nt
  d : Marks E a.defers w μ F H
  f : FrB E.w E.μ E.F E.H w μ F H
inductive AX where
  | normal | exit (id : Nat) | goto (l : Nat) | ret | panic (v : AV)
inductive AXR (w : World) (μ : Id → Option Loc) (F : Nat → Prop) : AX → Exit → Prop
  | normal : AXR w μ F .normal .normal
  | exit {i} : AXR w μ F (.exit i) (.exit i)
  | goto {l} : AXR w μ F (.goto l) (.goto l)
  | ret : AXR w μ F .ret .ret
  | panic {av v} : Rep w μ F av v → AXR w μ F (.panic av) (.panic [{ v, recovered := false }])
def Lift (cx : Cx) (nt : Nat) (E : Entry) (Q : AX → TT → HH → Prop) (e : Exit) (a : Act) (w : World) : Prop :=
  ∃ ae T H μ F, Q ae T H ∧ SimX cx nt E T H a w μ F ∧ AXR w μ F ae e

/-- In a round of a range over a function, or not. -/
def fen (ro : Option Nat) : Fence := { Fence.wide with round := ro }
theorem fen_none : fen none = Fence.wide := rfl
theorem fen_some (l : Nat) : fen (some l) = Fence.wide.inRound l := rfl
/-- What the evaluator does not take in: to be shown of the machine itself. -/
structure RawP (cx : Cx) (nt : Nat) (c : Code) (T : TT) (H : HH) (Q : AX → TT → HH → Prop) : Prop where
  h : ∀ (ro : Option Nat) (n : Nat) (E : Entry) (a : Act) (w : World) (μ : Id → Option Loc) (F : Nat → Prop), SimX cx nt E T H a w μ F → c.wpIn (fen ro) n cx.P (Lift cx nt E Q) a w
structure RfP (cx : Cx) (nt : Nat) (c : Code) (T : TT) (H : HH) (Q : AX → TT → HH → Prop) : Prop where
  h : ∀ (E : Entry) (a : Act) (w : World) (μ : Id → Option Loc) (F : Nat → Prop), E.col = true → SimX cx nt E T H a w μ F → c.wp cx.P (Lift cx nt E Q) a w
/-- No range over a function in it. -/
def noRF : Code → Bool
  | .seq a b => noRF a && noRF b
  | .cond _ a b => noRF a && noRF b
  | .block _ c => noRF c
  | .loop c => noRF c
  | .rangeFunc .. => false
  | _ => true
def opDf : Op → Bool | .defer _ => true | _ => false
/-- Nor a deferred call, nor a region that draws. -/
def noDf : Code → Bool
  | .region _ ops draw => match draw with | true => false | false => ops.toList.all fun o => !opDf o.op
  | .seq a b => noDf a && noDf b
  | .cond _ a b => noDf a && noDf b
  | .block _ c => noDf c
  | .loop c => noDf c
  | .rangeFunc .. => false
  | _ => true
end Go.Eng
/- The predicate transformer: operations, regions, code. -/
namespace Go.Eng
structure LoopP (X : Prop) : Prop where
  h : X
/-- A call; 'quiet': by what the function computes alone. -/
structure CallW (cx : Cx) (quiet : Bool) (f : FuncId) (args : List AV) (H : HH) (K KP : AV → HH → Prop) : Prop where
  h : match quiet with
    | true => ∃ args0 v, PSpec cx f args0 (.ret v) ∧ EntSL args args0 ∧ K v H
    | false => ∃ Post, HSpec cx f args H Post ∧ ∀ o H', Post o H' → match o with | .ret v => K v H' | .pan v => KP v H'
def callK (cx : Cx) (quiet : Bool) (id : Id) (T : TT) (H : HH) (c : Call) (K KP : AV → HH → Prop) : Prop :=
  match c with
  | ⟨callee, args, argTypes⟩ => evs cx T args.toList fun args =>
    match callee with
    | .builtin b => match b with
      | .len => match argTypes.toList, args with | t :: _, [x] => (match cx.ty t with | some ⟨d, _, _, _⟩ => lenK d (fun v => K v H) x | none => False) | _, _ => False
      | .append => match argTypes.toList, args with | t :: t2 :: _, [x, y] => appendK cx id t t2 H K x y | _, _ => False
      | .copy => match argTypes.toList, args with | t :: _, [x, y] => copyK cx t H K x y | _, _ => False
      | .clear => match argTypes.toList, args with | t :: _, [x] => clearK cx t H K x | _, _ => False
      | .min => minmaxK false (fun v => K v H) args
      | .max => minmaxK true (fun v => K v H) args
      | _ => False
    | .value f => match ev cx T f with
      | some (.clo (.func g) first cap) => CallW cx quiet g (first ++ args ++ cap) H K KP
      | _ => False
    | .invoke x name => withE cx T x fun v => match v with
      | .ifc t u => match cx.meth t name with
        | some f => CallW cx quiet f (u :: args) H K KP
        | none => False
      | _ => False
def unK (op : UnOp) (K : AV → Prop) (x : AV) : Prop :=
  match op, x with
  | .neg, .lit (.int k n) => K (.lit (.int k (k.wrap (0 - n))))
  | .not, .lit (.bool b) => K (.lit (.bool (!b)))
  | .xor, .lit (.int k n) => K (.lit (.int k (k.wrap (BitVec.ofInt k.bits (if k.signed then -1 else k.max) ^^^ BitVec.ofInt k.bits n).toNat)))
  | _, _ => False
def nilCheckK (K : AV → Prop) (x : AV) : Prop :=
  match x with
  | .ptr r i j => K (.ptr r i j)
  | .fptr sz n el i j => K (.fptr sz n el i j)
  | .ifc t v => K (.ifc t v)
  | .clo (.func f) a b => K (.clo (.func f) a b)
  | _ => False
def indexK (K : AV → Prop) (x ix : AV) : Prop :=
  match x, ix with
  | .lit (.string s), .lit (.int _ i) => idxK i s.size fun m => K (.lit (.int .u8 (s.data.getD m 0).toNat))
  | _, _ => False
def extractK (i : Nat) (K : AV → Prop) (x : AV) : Prop := match x with | .tup l => (match l[i]? with | some v => K v | none => False) | _ => False
/-- What a guard finds: what was not reached is not wanted. -/
def gOf (want : Bool) : Option AV → Option Bool
  | some (.lit v) => match v with | .bool b => some b | .tuple _ => some (!want) | _ => none
  | _ => none
/-- A guard. -/
def BrW (want b : Bool) (X Y : Unit → Prop) : Prop := match want with | true => Br b X Y | false => Br b Y X
theorem BrW_eq (want b : Bool) (X Y : Unit → Prop) : BrW want b X Y = Br (b == want) X Y := by cases want <;> cases b <;> rfl
def wholeV (t : Option TI) : Option AV := match t with
  | some ⟨d, _, _, z⟩ => match isAggT d with | true => some (.agg z) | false => (match z with | [v] => some v | _ => none)
  | none => none
def assertK (cx : Cx) (t : TypeId) (ok : Bool) (K : AV → Prop) (x : AV) : Prop :=
  match ok with
  | false => False
  | true => match x with
    | .lit .nilIface => match wholeV (cx.ty t) with | some z => K (.tup [z, .lit (.bool false)]) | none => False
    | .ifc u v => match Nat.beq u t with
      | true => K (.tup [v, .lit (.bool true)])
      | false => match wholeV (cx.ty t) with | some z => K (.tup [z, .lit (.bool false)]) | none => False
    | _ => False
def makeSliceK (cx : Cx) (id : Id) (t : TypeId) (H : HH) (K : AV → HH → Prop) (l c : AV) : Prop :=
  match cx.ty t with
  | some ⟨.slice e, _, _, _⟩ => match cx.ty e with
    | some ⟨_, sz, bs, z⟩ => asInt l fun l => asInt c fun c => match l, c with
      | .ofNat l, .ofNat c => (l ≤ c ∧ c * bs ≤ R ∧ c ≤ R) ∧ fresh H id (K (.row id 0 l none) (H.put id (.cells sz bs (List.replicate c z))))
      | _, _ => False
    | none => False
  | _ => False
def makeMapK (id : Id) (H : HH) (K : AV → HH → Prop) : Prop := fresh H id (K (.mref id) (H.put id (.map [])))
def isStrT (t : Option TI) : Bool := match t with | some ⟨.string, _, _, _⟩ => true | _ => false
def lookRes (cx : Cx) (e : TypeId) (ok : Bool) (K : AV → Prop) : Option AV → Prop
  | some v => match ok with | true => K (.tup [v, .lit (.bool true)]) | false => K v
  | none => match wholeV (cx.ty e) with
    | some z => (match ok with | true => K (.tup [z, .lit (.bool false)]) | false => K z)
    | none => False
def lookupK (cx : Cx) (t : TypeId) (ok : Bool) (H : HH) (K : AV → Prop) (m x : AV) : Prop :=
  match cx.ty t with
  | some ⟨.map k e, _, _, _⟩ => match isStrT (cx.ty k) with
    | true => match m, x with
      | .mref r, .lit (.string s) => match H r with
        | some (.map kv) => ∃ o, findS s kv = some o ∧ lookRes cx e ok K o
        | _ => False
      | .lit (.map none), .lit (.string _) => lookRes cx e ok K none
      | _, _ => False
    | false => False
  | _ => False
def mapUpdateK (cx : Cx) (t : TypeId) (H : HH) (K : HH → Prop) (m x v : AV) : Prop :=
  match cx.ty t with
  | some ⟨.map k _, _, _, _⟩ => match isStrT (cx.ty k) with
    | true => match m, x with
      | .mref r, .lit (.string s) => match H r with
        | some (.map kv) => ∃ kv', setS s v kv = some kv' ∧ K (H.put r (.map kv'))
        | _ => False
      | _, _ => False
    | false => False
  | _ => False
def rangeK (cx : Cx) (id : Id) (t : TypeId) (H : HH) (K : AV → HH → Prop) (x : AV) : Prop :=
  match isStrT (cx.ty t), x with
  | true, .lit (.string s) => fresh H id (K (.ptr id 0 0) (H.put id (.iter s 0)))
  | _, _ => False
def nextK (str : Bool) (H : HH) (K : AV → HH → Prop) (x : AV) : Prop :=
  match str, x with
  | true, .ptr r 0 0 => match H r with
    | some (.iter s p) => Br (decide (p < s.size))
        (fun _ => K (.tup [.lit (.bool true), .lit (.int .i64 p), .lit (.int .i32 (Utf8.decode s p).1)]) (H.put r (.iter s (p + (Utf8.decode s p).2))))
        (fun _ => K (.tup [.lit (.bool false)]) H)
    | _ => False
  | _, _ => False
def isCst : Operand → Bool | .const _ => true | _ => false
def skipV : AV := .lit (.tuple #[])
def opK (cx : Cx) (quiet : Bool) (id : Id) (o : Op) (T : TT) (H : HH) (K KP : AV → HH → Prop) : Prop :=
  match o with
  | .move x => withE cx T x fun v => K v H
  | .assign x => withE cx T x fun v => K v H
  | .pick c a b => withE cx T c fun v => match v with
    | .lit (.bool t) => Br t (fun _ => withE cx T a fun v => K v H) (fun _ => withE cx T b fun v => K v H)
    | _ => False
  | .alloc t => match cx.ty t with | some ⟨_, sz, bs, z⟩ => fresh H id (K (.ptr id 0 0) (H.put id (.cells sz bs [z]))) | none => False
  | .box t x => withE cx T x fun v => match cx.ty t with
    | some ⟨_, sz, bs, _⟩ => match Nat.beq (cellsOf v).length sz with
      | true => okCells (cellsOf v) (BoxP (fresh H id (K (.ptr id 0 0) (H.put id (.cells sz bs [cellsOf v])))) (idfL (cellsOf v) = true ∧ K (.fptr sz 1 (fun _ => cellsOf v) 0 0) H))
      | false => False
    | none => False
  | .build t ps => match cx.ty t with
    | some ⟨.struct offs, _, _, z⟩ => partsK cx T ps.toList fun l => fillK offs l z fun z => K (.agg z) H
    | _ => False
  | .buildSlice t n ps => match cx.ty t with
    | some ⟨.slice e, _, _, _⟩ => match cx.ty e with
      | some ⟨_, sz, bs, _⟩ => match Nat.ble (n * bs) 16777216, Nat.ble (n * sz) 16777216, Nat.beq ps.toList.length n with
        | true, true, true => partsK cx T ps.toList fun l => buildSliceK sz 0 l fun es => BuildP (fresh H id (K (.row id 0 n none) (H.put id (.cells sz bs es)))) (es.all idfL = true ∧ K (.fsl none sz bs n (fun i => es.getD i [])) H)
        | _, _, _ => False
      | none => False
    | _ => False
  | .load t a => withE cx T a fun v => loadK cx t H (fun r => K r H) v
  | .store t a x => withE cx T a fun p => withE cx T x fun v => match cx.ty t with
    | some ⟨_, n, _, _⟩ => match Nat.beq (cellsOf v).length n with
      | true => storeK H v (fun H' => K skipV H') p
      | false => False
    | none => False
  | .nilCheck x => withE cx T x fun v => nilCheckK (fun r => K r H) v
  | .binOp op t x y _ => withE cx T x fun a => withE cx T y fun b => match cx.ty t with | some ⟨d, _, _, _⟩ => binK op d (isCst x || isCst y) (fun r => K r H) a b | none => False
  | .unOp op _ x => withE cx T x fun v => unK op (fun r => K r H) v
  | .convert src dst x => withE cx T x fun v => convK cx id src dst H K v
  | .makeInterface t x => withE cx T x fun v => match cx.ty t with | some ⟨.iface, _, _, _⟩ => False | some _ => K (.ifc t v) H | none => False
  | .makeFunc fn first cap => evs cx T first.toList fun a => evs cx T cap.toList fun b => K (.clo fn a b) H
  | .makeSlice t l c => withE cx T l fun l => withE cx T c fun c => makeSliceK cx id t H K l c
  | .slice t x lo hi mx => withE cx T x fun v => optE cx T lo fun lo => optE cx T hi fun hi => optE cx T mx fun mx => sliceK cx t H lo hi mx (fun r => K r H) v
  | .fieldAddr t x f => withE cx T x fun v => match cx.ty t with | some ⟨d, _, _, _⟩ => fieldOff d f fun off => fieldAddrK off (fun r => K r H) v | none => False
  | .indexAddr t x i => withE cx T x fun v => withE cx T i fun ix => match cx.ty t with
    | some ⟨.slice e, _, _, _⟩ => match cx.ty e with | some ⟨_, sz, _, _⟩ => indexAddrK H (fun r => K r H) sz v ix | none => False
    | _ => False
  | .index t x i => withE cx T x fun v => withE cx T i fun ix => match cx.ty t with | some ⟨.string, _, _, _⟩ => indexK (fun r => K r H) v ix | _ => False
  | .extract x i => withE cx T x fun v => extractK i (fun r => K r H) v
  | .typeAssert x _ t ok => withE cx T x fun v => match cx.ty t with | some ⟨.iface, _, _, _⟩ => False | some _ => assertK cx t ok (fun r => K r H) v | none => False
  | .call c => callK cx quiet id T H c K KP
  | .panic x => withE cx T x fun v => match v with | .ifc t u => KP (.ifc t u) H | _ => False
  | .makeMap _ none => makeMapK id H K
  | .lookup t x ix ok => withE cx T x fun m => withE cx T ix fun x => lookupK cx t ok H (fun r => K r H) m x
  | .mapUpdate t m k v => withE cx T m fun m => withE cx T k fun k => withE cx T v fun v => mapUpdateK cx t H (fun H' => K skipV H') m k v
  | .insert t m k v => withE cx T m fun m => withE cx T k fun k => withE cx T v fun v => mapUpdateK cx t H (fun H' => K skipV H') m k v
  | .range t x => withE cx T x fun v => rangeK cx id t H K v
  | .next x str => withE cx T x fun v => nextK str H K v
  | _ => False
/-- The operations of a region, one behind another. 'q': which calls must be quiet. -/
def W (cx : Cx) (nt g : Nat) (q : Nat → Bool) (ops : Array Oper) : Nat → List Oper → TT → HH → (TT → HH → Prop) → (AV → TT → HH → Prop) → Prop
  | _, [], T, H, K, _ => K T H
  | i, ⟨dst, op, _, _, _, guard⟩ :: l, T, H, K, KP =>
    match guard with
    | none => match dst with
      | some d => match Nat.blt d nt with
        | true => opK cx (q i) (g, d, 0) op T H (fun v H' => W cx nt g q ops (i + 1) l (T.put d v) H' K KP) (fun v H' => KP v T H')
        | false => False
      | none => opK cx (q i) (g, 1000000, 0) op T H (fun _ H' => W cx nt g q ops (i + 1) l T H' K KP) (fun v H' => KP v T H')
    | some (j, want) => match ops[j]? with
      | some ⟨some e, _, _, _, _, _⟩ => match gOf want (T e) with
        | some b => match dst with
          | some d => match Nat.blt d nt with
            | true => BrW want b (fun _ => opK cx (q i) (g, d, 0) op T H (fun v H' => W cx nt g q ops (i + 1) l (T.put d v) H' K KP) (fun v H' => KP v T H')) (fun _ => W cx nt g q ops (i + 1) l (T.put d skipV) H K KP)
            | false => False
          | none => BrW want b (fun _ => opK cx (q i) (g, 1000000, 0) op T H (fun _ H' => W cx nt g q ops (i + 1) l T H' K KP) (fun v H' => KP v T H')) (fun _ => W cx nt g q ops (i + 1) l T H K KP)
        | _ => False
      | _ => False
def ofL : List (Nat × AV) → TT
  | [] => TT.emp
  | (k, v) :: l => (ofL l).put k v
def ofH : List (Id × Row) → HH
  | [] => HH.emp
  | (k, v) :: l => (ofH l).put k v
/-- The state may be seen so, too: names of rows turned (but those of generation 0), rows let go, memory seen as such as nobody writes. -/
def Sub (T : TT) (H : HH) (T' : TT) (H' : HH) : Prop :=
  ∀ w μ F (tm : Nat → Value), HRep w μ F H → (∀ t av, T t = some av → Rep w μ F av (tm t)) →
    ∃ μ' F', HRep w μ' F' H' ∧ (∀ t av, T' t = some av → (∃ bv, T t = some bv) ∧ Rep w μ' F' av (tm t)) ∧
      (∀ b, F b → F' b) ∧ (∀ b, F' b → F b ∨ Lv μ H b) ∧ (∀ b, Lv μ' H' b → Lv μ H b) ∧ (∀ r l, r.1 = 0 → μ r = some l → μ' r = some l)
def headId : AV → Option Id | .row r _ _ _ => some r | .ptr r _ _ => some r | .mref r => some r | _ => none
/-- 0: reads no row; 1: reads rows; 2: lays a row of its own, or reads; 3: all else. -/
def clsOf (cx : Cx) (quiet : Bool) : Op → Nat
  | .load .. | .slice .. | .indexAddr .. => 1
  | .alloc .. | .box .. | .buildSlice .. | .makeSlice .. => 2
  | .convert _ d _ => match cx.ty d with | some ⟨.int _, _, _, _⟩ => 0 | _ => 2
  | .move .. | .assign .. | .pick .. | .build .. | .nilCheck .. | .binOp .. | .unOp .. | .makeInterface .. | .makeFunc .. | .fieldAddr .. | .index .. | .extract .. | .typeAssert .. => 0
  | .call c => match c.callee with
    | .builtin b => match b with | .len => 0 | .min => 0 | .max => 0 | _ => 3
    | _ => match quiet with | true => 0 | false => 3
  | _ => 3
def namesOf (ops : Array Oper) (o : Oper) : List Nat :=
  (o.op.operands.toList.filterMap fun | .tmp t => some t | _ => none) ++ (match o.guard with | some (j, _) => ((ops[j]?).bind (·.dst)).toList | none => [])
def hard (e : Edge) : Bool := match e.ground with | .textOnly _ => false | .gcOnly _ => false | _ => true
/-- What stands ahead of an operation in every order. -/
def ahT : List Oper → List (List Nat) → List (List Nat)
  | [], acc => acc
  | o :: l, acc => ahT l (acc ++ [(o.after.toList.filter hard).flatMap fun e => e.on :: acc.getD e.on []])
def tmpMeet (ops : Array Oper) (a b : Oper) : Bool :=
  (match a.dst with | some d => (namesOf ops b).contains d || b.dst == some d | none => false) || (match b.dst with | some d => (namesOf ops a).contains d | none => false)
/-- Is it an address in what may be a block of the region's own? -/
def ownSt (ops : Array Oper) (p : Nat) : Bool := ops.toList.any fun o => match o.dst with | some d => Nat.beq d p && (match o.op with | .indexAddr .. => true | _ => false) | none => false
/-- The same, where an operation may be marked (q: false): 4 a store into a block of the region's own, 5 a store into one that is not, 6: reads rows of the region's own only. -/
def clsO (cx : Cx) (q : Bool) (ops : Array Oper) (o : Oper) : Nat := match q with
  | true => clsOf cx true o.op
  | false => match o.op with
    | .store _ a _ => match a, o.guard, o.dst with
      | .tmp p, none, none => match ownSt ops p with | true => 4 | false => 5
      | _, _, _ => 3
    | .load _ a => match a with
      | .tmp p => match ownSt ops p with | true => 6 | false => 0
      | _ => 6
    | .slice .. | .indexAddr .. => 6
    | op => clsOf cx false op
/-- a may stand before b where neither is bound: what b does is not touched by a, nor what a does by b. -/
def mayPass (ca cb : Nat) : Bool := match ca, cb with
  | 0, _ => true
  | 1, 0 | 1, 1 | 1, 2 | 1, 6 => true
  | 2, 0 | 2, 1 | 2, 2 | 2, 6 => true
  | 6, 0 | 6, 1 | 6, 2 | 6, 6 | 6, 5 => true
  | 4, 5 => true
  | _, _ => false
/-- 'ord' is an order that holds, and any two that are not bound may change places. -/
def orderOk (cx : Cx) (q : Nat → Bool) (ops : Array Oper) (ord : List Nat) : Bool :=
  let ah := ahT ops.toList []
  Nat.beq ord.length ops.size && ((List.range ops.size).all fun i => ord.contains i) && go ah [] ord
where
  go (ah : List (List Nat)) (seen : List Nat) : List Nat → Bool
    | [] => true
    | i :: l => !seen.contains i && (match ops[i]? with
      | none => false
      | some b => (b.after.toList.all fun e => !hard e || seen.contains e.on) && seen.all fun j => (ah.getD i []).contains j || (match ops[j]? with
        | none => false
        | some a => mayPass (clsO cx (q j) ops a) (clsO cx (q i) ops b) && !(tmpMeet ops a b))) && go ah (i :: seen) l
/-- One operation of a region: what W says of it. -/
def W1 (cx : Cx) (nt g : Nat) (quiet : Bool) (ops : Array Oper) (o : Oper) (T : TT) (H : HH) (K : TT → HH → Prop) (KP : AV → TT → HH → Prop) : Prop :=
  match o with
  | ⟨dst, op, _, _, _, guard⟩ => match guard with
    | none => match dst with
      | some d => match Nat.blt d nt with
        | true => opK cx quiet (g, d, 0) op T H (fun v H' => K (T.put d v) H') (fun v H' => KP v T H')
        | false => False
      | none => opK cx quiet (g, 1000000, 0) op T H (fun _ H' => K T H') (fun v H' => KP v T H')
    | some (j, want) => match ops[j]? with
      | some ⟨some e, _, _, _, _, _⟩ => match gOf want (T e) with
        | some b => match dst with
          | some d => match Nat.blt d nt with
            | true => BrW want b (fun _ => opK cx quiet (g, d, 0) op T H (fun v H' => K (T.put d v) H') (fun v H' => KP v T H')) (fun _ => K (T.put d skipV) H)
            | false => False
          | none => BrW want b (fun _ => opK cx quiet (g, 1000000, 0) op T H (fun _ H' => K T H') (fun v H' => KP v T H')) (fun _ => K T H)
        | _ => False
      | _ => False
def chkOwn (g : Nat) (T : TT) : List Nat → Prop
  | [] => True
  | t :: l => (match T t with | some av => (match headId av with | none => True | some r => Nat.beq r.1 g = true) | none => True) ∧ chkOwn g T l
def chkFrz (T : TT) : List Nat → Prop
  | [] => True
  | t :: l => (match T t with | some av => (match headId av with | none => True | some _ => False) | none => True) ∧ chkFrz T l
/-- What is asked of a marked operation. -/
def chkO (g : Nat) (ops : Array Oper) (o : Oper) (T : TT) (X : Prop) : Prop := match o.op with
  | .store _ a _ => match a with
    | .tmp p => (match T p with | some (.ptr r _ _) => Nat.beq r.1 g = ownSt ops p | _ => False) ∧ X
    | _ => X
  | .load _ a => match a with
    | .tmp p => match ownSt ops p with
      | true => chkOwn g T (namesOf ops o) ∧ X
      | false => chkFrz T (namesOf ops o) ∧ X
    | _ => chkOwn g T (namesOf ops o) ∧ X
  | .slice .. | .indexAddr .. => chkOwn g T (namesOf ops o) ∧ X
  | _ => X
def W1c (cx : Cx) (nt g : Nat) (quiet : Bool) (ops : Array Oper) (o : Oper) (T : TT) (H : HH) (K : TT → HH → Prop) (KP : AV → TT → HH → Prop) : Prop := match quiet with
  | true => W1 cx nt g true ops o T H K KP
  | false => chkO g ops o T (W1 cx nt g false ops o T H K KP)
/-- The operations of a region in an order of ours. -/
def WL (cx : Cx) (nt g : Nat) (q : Nat → Bool) (ops : Array Oper) : List Nat → TT → HH → (TT → HH → Prop) → (AV → HH → Prop) → Prop
  | [], T, H, K, _ => K T H
  | i :: l, T, H, K, KP => match ops[i]? with
    | some o => W1c cx nt g (q i) ops o T H (fun T' H' => WL cx nt g q ops l T' H' K KP) (fun v _ H' => KP v H')
    | none => False
/-- The operations that can come next. -/
def nexts (ops : Array Oper) (seen : List Nat) : List Nat :=
  (List.range ops.size).filter fun i => !seen.contains i && (match ops[i]? with | some o => o.after.toList.all fun e => !hard e || seen.contains e.on | none => false)
def allL {α : Type} (p : α → Prop) : List α → Prop
  | [] => True
  | [x] => p x
  | x :: l => p x ∧ allL p l
/-- The operations of a region in every order. -/
def WA (cx : Cx) (nt g : Nat) (ops : Array Oper) : Nat → List Nat → TT → HH → (TT → HH → Prop) → Prop
  | 0, seen, T, H, K => match nexts ops seen with | [] => K T H | _ => False
  | n + 1, seen, T, H, K => match nexts ops seen with
    | [] => False
    | l => allL (fun i => match ops[i]? with
      | some o => W1 cx nt g false ops o T H (fun T' H' => WA cx nt g ops n (i :: seen) T' H' K) (fun _ _ _ => False)
      | none => False) l
/-- What is known of a state without a proof. -/
structure Facts (T : TT) (H : HH) : Prop where
  str : ∀ t s, T t = some (.lit (.string s)) → s.size ≤ R
  fsl : ∀ t c sz bs n el, T t = some (.fsl c sz bs n el) → n * bs ≤ R
  lz : ∀ t d c sz bs n el, T t = some (.lz d) → d.unf = .fsl c sz bs n el → n * bs ≤ R
  row : ∀ r sz bs es, H r = some (.cells sz bs es) → es.length * bs ≤ R
/-- A region. -/
def RW (cx : Cx) (nt g : Nat) (ops : Array Oper) (draw : Bool) (T : TT) (H : HH) (Q : AX → TT → HH → Prop) : Prop := match draw with
  | false => W cx nt g (fun _ => false) ops 0 ops.toList T H (fun T' H' => Q .normal T' H') (fun v T' H' => Q (.panic v) T' H')
  | true => DrawP (∃ q ord, orderOk cx q ops ord = true ∧ WL cx nt g q ops ord T H (fun T' H' => Q .normal T' H') (fun v H' => Q (.panic v) TT.emp H')) (WA cx nt g ops ops.size [] T H (fun T' H' => Q .normal T' H'))
def WC (cx : Cx) (nt : Nat) : Nat → Code → TT → HH → (AX → TT → HH → Prop) → Prop
  | _, .skip, T, H, Q => Q .normal T H
  | g, .region id ops draw, T, H, Q => RegP (Facts T H → RW cx nt g ops draw T H Q) (∃ (TL : List (Nat × AV)) (HL : List (Id × Row)), Sub T H (ofL TL) (ofH HL) ∧ (Facts (ofL TL) (ofH HL) → RW cx nt g ops draw (ofL TL) (ofH HL) Q)) (RawP cx nt (.region id ops draw) T H Q)
  | g, .seq a b, T, H, Q => WC cx nt g a T H fun e T' H' => match e with | .normal => WC cx nt g b T' H' Q | e => Q e T' H'
  | g, .cond c a b, T, H, Q => match ev cx T c with
    | some (.lit (.bool t)) => Br t (fun _ => WC cx nt g a T H Q) (fun _ => WC cx nt g b T H Q)
    | _ => False
  | g, .block id c, T, H, Q => WC cx nt g c T H fun e T' H' => match e with
    | .exit i => match Nat.beq i id with | true => Q .normal T' H' | false => Q (.exit i) T' H'
    | e => Q e T' H'
  | _, .loop c, T, H, Q => LoopP <| ∃ (g : Nat) (ι : Type) (S : ι → List (Nat × AV) × List (Id × Row)) (m : ι → Nat), (∃ i, Sub T H (ofL (S i).1) (ofH (S i).2)) ∧
      ∀ i, WC cx nt g c (ofL (S i).1) (ofH (S i).2) fun e T' H' => match e with
        | .normal => ∃ j, m j < m i ∧ Sub T' H' (ofL (S j).1) (ofH (S j).2)
        | e => Q e T' H'
  | _, .exit id, T, H, Q => Q (.exit id) T H
  | _, .label _, T, H, Q => Q .normal T H
  | _, .ret, T, H, Q => Q .ret T H
  | _, .rangeFunc f ps a b, T, H, Q => RfP cx nt (.rangeFunc f ps a b) T H Q
  | _, _, _, _, _ => False
end Go.Eng
/- Soundness of the operations, first part: what values stand for, loads and stores. -/
namespace Go.Eng
theorem toList_loop (bs : ByteArray) : ∀ (k i : Nat) (r : List UInt8), bs.size - i = k → ByteArray.toList.loop bs i r = r.reverse ++ bs.data.toList.drop i := by
  intro k
  induction k with
  | zero =>
    intro i r h
    rw [ByteArray.toList.loop]
    rw [if_neg (by omega)]
    rw [List.drop_of_length_le (by simp; have : bs.data.size = bs.size := rfl; omega)]; simp
  | succ k ih =>
    intro i r h
    rw [ByteArray.toList.loop]
    have hs : bs.data.size = bs.size := rfl
    rw [if_pos (by omega), ih (i + 1) _ (by omega)]
    have hi : i < bs.data.toList.length := by simp; omega
    rw [List.drop_eq_getElem_cons hi]
    simp only [List.reverse_cons, List.append_assoc, List.singleton_append]
    congr 2
    have hi' : i < bs.data.size := by omega
    simp only [ByteArray.get!]
    rw [getElem!_pos bs.data i hi']; simp
theorem toList_eq (bs : ByteArray) : bs.toList = bs.data.toList := by
  unfold ByteArray.toList
  rw [toList_loop bs _ 0 [] rfl]; simp
def DOK (P : Program) : TD → TypeDesc → Prop
  | .int k, d => d = .int k
  | .bool, d => d = .bool
  | .string, d => d = .string
  | .slice e, d => d = .slice e
  | .struct offs, d => ∃ fs, d = .struct fs ∧ All2 (fun (o : Nat × Nat) (f : Field) => o.1 = f.offset ∧ o.2 ≠ 0 ∧ ∃ i, P.info? f.type = some i ∧ i.size = o.2) offs fs.toList
  | .ptr e, d => d = .pointer e
  | .iface, d => ∃ ms, d = .interface ms
  | .map k e, d => d = .map k e
  | .func, d => ∃ a b c, d = .func a b c
  | .other, d => d.isRow = false ∧ ∀ ms, d ≠ .interface ms
structure TOK (P : Program) (t : TypeId) (ti : TI) : Prop where
  ok : ∃ (i : TypeInfo) (d : TypeDesc) (z : Value), P.info? t = some i ∧ P.underlying t = some d ∧ i.size = ti.size ∧ i.bytes = ti.bytes ∧ DOK P ti.desc d ∧ i.zero = some z ∧
    (match isAggT ti.desc with | true => ∃ cs, z = .agg cs | false => z.oneCell' = true) ∧ ti.zero.length = ti.size ∧ (∀ w F, All2 (RepF w F) ti.zero z.cells.toList) ∧ (∀ v ∈ z.cells.toList, v.oneCell' = true) ∧ ti.bytes ≤ R
/-- The tables of the evaluator are those of the program. -/
structure CxOK (cx : Cx) : Prop where
  ty : ∀ t ti, cx.ty t = some ti → TOK cx.P t ti
  meth : ∀ t name f, cx.meth t name = some f → ∀ (v : Value) (w : World), (method (cx.P.types.size + Made.depth) t v name).run cx.P w = .ok (f, v) w
  mixed : cx.P.follows .mixedOrders = true
/-! ### Inversion -/
section
variable {w : World} {μ : Id → Option Loc} {F : Nat → Prop}
theorem RepF_lit {v x} (h : RepF w F (.lit v) x) : x = v ∧ Plain v := by cases h; exact ⟨rfl, ‹_›⟩
theorem Rep_lit {v x} (h : Rep w μ F (.lit v) x) : x = v ∧ Plain v := by cases h; exact RepF_lit ‹_›
theorem Rep_fsl {c sz bs n el x} (h : Rep w μ F (.fsl c sz bs n el) x) : RepF w F (.fsl c sz bs n el) x := by cases h; assumption
theorem Rep_fptr {sz n el i j x} (h : Rep w μ F (.fptr sz n el i j) x) : RepF w F (.fptr sz n el i j) x := by cases h; assumption
theorem Rep_lz {d x} (h : Rep w μ F (.lz d) x) : RepF w F d.unf x := by cases h; rename_i h; cases h; assumption
theorem Rep_ptr {r i j x} (h : Rep w μ F (.ptr r i j) x) : ∃ l b, μ r = some l ∧ l.b = some b ∧ x = .pointer (some ⟨b, l.base + i * l.sz + j, none⟩) := by
  cases h with
  | frz h => cases h
  | ptr h1 h2 => exact ⟨_, _, h1, h2, rfl⟩
theorem Rep_mref {r x} (h : Rep w μ F (.mref r) x) : ∃ l b, μ r = some l ∧ l.b = some b ∧ x = .map (some b) := by
  cases h with
  | frz h => cases h
  | mref h1 h2 => exact ⟨_, _, h1, h2, rfl⟩
theorem Rep_clo {fn first cap x} (h : Rep w μ F (.clo fn first cap) x) : ∃ fs cs, x = .func fn ⟨fs⟩ ⟨cs⟩ ∧ All2 (Rep w μ F) first fs ∧ All2 (Rep w μ F) cap cs := by
  cases h with
  | frz h =>
    cases h with
    | clo h1 h2 h3 h4 => exact ⟨_, _, rfl, .of_get h1 fun i a b => .frz (h3 i a b), .of_get h2 fun i a b => .frz (h4 i a b)⟩
  | clo h1 h2 h3 h4 => exact ⟨_, _, rfl, .of_get h1 h3, .of_get h2 h4⟩
theorem Rep_ifc {t v x} (h : Rep w μ F (.ifc t v) x) : ∃ y, x = .iface t y ∧ Rep w μ F v y := by
  cases h with
  | frz h => cases h with | ifc h => exact ⟨_, rfl, .frz h⟩
  | ifc h => exact ⟨_, rfl, h⟩
theorem Rep_agg {cs x} (h : Rep w μ F (.agg cs) x) : ∃ vs, x = .agg ⟨vs⟩ ∧ All2 (Rep w μ F) cs vs := by
  cases h with
  | frz h => cases h with | agg h1 h2 => exact ⟨_, rfl, .of_get h1 fun i a b => .frz (h2 i a b)⟩
  | agg h1 h2 => exact ⟨_, rfl, .of_get h1 h2⟩
theorem Rep_tup {cs x} (h : Rep w μ F (.tup cs) x) : ∃ vs, x = .tuple ⟨vs⟩ ∧ All2 (Rep w μ F) cs vs := by
  cases h with
  | frz h => cases h with | tup h1 h2 => exact ⟨_, rfl, .of_get h1 fun i a b => .frz (h2 i a b)⟩
  | tup h1 h2 => exact ⟨_, rfl, .of_get h1 h2⟩
theorem Rep_row {r o n c x} (h : Rep w μ F (.row r o n c) x) : ∃ l, μ r = some l ∧
    ((l.b = none ∧ o = 0 ∧ n = 0 ∧ (∀ m, c = some m → m = 0) ∧ ∃ a, x = .slice a 0 0) ∨
     ∃ b a k, l.b = some b ∧ a.block = b ∧ (k = 0 ∨ a = ⟨b, l.base + o * l.sz, none⟩) ∧ n ≤ k ∧ (c = none → o + k = l.cap) ∧ (∀ m, c = some m → k = m ∧ o + m ≤ l.cap) ∧ x = .slice (some a) n k) := by
  cases h with
  | frz h => cases h
  | row0 h1 h2 h3 => exact ⟨_, h1, .inl ⟨h2, rfl, rfl, h3, _, rfl⟩⟩
  | row h1 h2 h3 h4 h5 h6 h7 => exact ⟨_, h1, .inr ⟨_, _, _, h2, h3, h4, h5, h6, h7, rfl⟩⟩
end
theorem All2.agg {w : World} {μ : Id → Option Loc} {F : Nat → Prop} {cs vs} (h : All2 (Rep w μ F) cs vs) : Rep w μ F (.agg cs) (.agg ⟨vs⟩) := .agg h.length h.get
theorem All2.tup {w : World} {μ : Id → Option Loc} {F : Nat → Prop} {cs vs} (h : All2 (Rep w μ F) cs vs) : Rep w μ F (.tup cs) (.tuple ⟨vs⟩) := .tup h.length h.get
theorem takeK_iff : ∀ {n l} {k : List AV → Prop}, takeK n l k → n ≤ l.length ∧ k (l.take n)
  | 0, _, _, h => ⟨Nat.zero_le _, by simpa [takeK] using h⟩
  | n + 1, c :: cs, k, h => by
    have := takeK_iff (n := n) (l := cs) (k := fun l => k (c :: l)) h
    exact ⟨by simp; omega, by simpa using this.2⟩
  | n + 1, [], _, h => by simp [takeK] at h
theorem dropK_iff : ∀ {n l} {k : List AV → Prop}, dropK n l k → n ≤ l.length ∧ k (l.drop n)
  | 0, _, _, h => ⟨Nat.zero_le _, by simpa [dropK] using h⟩
  | n + 1, _ :: cs, k, h => by
    have := dropK_iff (n := n) (l := cs) (k := k) h
    exact ⟨by simp; omega, by simpa using this.2⟩
  | n + 1, [], _, h => by simp [dropK] at h
/-- Cells of an element in the world. -/
def ElemAt (w : World) (μ : Id → Option Loc) (F : Nat → Prop) (b o : Nat) (e : List AV) : Prop :=
  ∃ vs : List Value, All2 (Rep w μ F) e vs ∧ ∀ j v, vs[j]? = some v → w.cell? ⟨b, o + j, none⟩ = some v
theorem All2.drop {α β : Type} {Q : α → β → Prop} {l : List α} {m : List β} (h : All2 Q l m) : ∀ n, All2 Q (l.drop n) (m.drop n) := by
  induction h with
  | nil => intro n; simp; exact .nil
  | cons hq h ih =>
    intro n
    cases n with
    | zero => exact .cons hq h
    | succ n => simpa using ih n
theorem All2.take {α β : Type} {Q : α → β → Prop} {l : List α} {m : List β} (h : All2 Q l m) : ∀ n, All2 Q (l.take n) (m.take n) := by
  induction h with
  | nil => intro n; simp; exact .nil
  | cons hq h ih =>
    intro n
    cases n with
    | zero => simp; exact .nil
    | succ n => simpa using .cons hq (ih n)
theorem ElemAt.drop {w μ F b o e} (h : ElemAt w μ F b o e) (j : Nat) : ElemAt w μ F b (o + j) (e.drop j) := by
  obtain ⟨vs, h1, h2⟩ := h
  refine ⟨vs.drop j, h1.drop j, fun i v hv => ?_⟩
  rw [List.getElem?_drop] at hv
  rw [Nat.add_assoc]; exact h2 _ _ hv
theorem ElemAt.take {w μ F b o e} (h : ElemAt w μ F b o e) (n : Nat) : ElemAt w μ F b o (e.take n) := by
  obtain ⟨vs, h1, h2⟩ := h
  refine ⟨vs.take n, h1.take n, fun i v hv => ?_⟩
  rw [List.getElem?_take] at hv
  split at hv
  · exact h2 _ _ hv
  · cases hv
section
variable {cx : Cx} {w : World} {μ : Id → Option Loc} {F : Nat → Prop}
theorem isRow_struct {d : TypeDesc} {P : Program} {t : TD} (h : DOK P t d) (ha : isAggT t = true) : d.isRow = true := by
  cases t <;> simp [isAggT] at ha
  obtain ⟨fs, rfl, _⟩ := h
  rfl
theorem isRow_not {d : TypeDesc} {P : Program} {t : TD} (h : DOK P t d) (ha : isAggT t = false) : d.isRow = false := by
  cases t <;> simp [isAggT] at ha <;> simp only [DOK] at h <;> first | (subst h; rfl) | exact h.1 | (obtain ⟨_, rfl⟩ := h; rfl) | (obtain ⟨_, _, _, rfl⟩ := h; rfl)
theorem run_isAgg {P : Program} {t : TypeId} {d : TypeDesc} (hu : P.underlying t = some d) (w : World) : (isAgg t).run P w = .ok d.isRow w := by
  unfold isAgg
  rw [Sem.run_bind, run_underlying hu w]
  cases d <;> rfl
theorem load_agg (ok : CxOK cx) {t : TypeId} {d n bs z} (ht : cx.ty t = some ⟨d, n, bs, z⟩) (ha : isAggT d = true) {b o : Nat} {e : List AV} (he : ElemAt w μ F b o e) (hl : e.length = n) :
    ∃ v, (loadVar t ⟨b, o, none⟩).run cx.P w = .ok v w ∧ Rep w μ F (.agg e) v := by
  obtain ⟨i, dd, zz, h1, h2, h3, _, h5, _⟩ := (ok.ty t _ ht).ok
  obtain ⟨vs, hv, hc⟩ := he
  refine ⟨.agg ⟨vs⟩, ?_, hv.agg⟩
  have := run_loadVar_mid (P := cx.P) w b o t vs dd hc h2 (isRow_struct h5 ha) (by rw [h1]; simp only [Option.map_some]; rw [h3, ← hl, hv.length])
  simpa using this
theorem load_one (ok : CxOK cx) {t : TypeId} {d n bs z} (ht : cx.ty t = some ⟨d, n, bs, z⟩) (ha : isAggT d = false) {b o : Nat} {c : AV} {e : List AV} (he : ElemAt w μ F b o (c :: e)) :
    ∃ v, (loadVar t ⟨b, o, none⟩).run cx.P w = .ok v w ∧ Rep w μ F c v := by
  obtain ⟨i, dd, zz, h1, h2, h3, _, h5, _⟩ := (ok.ty t _ ht).ok
  obtain ⟨vs, hv, hc⟩ := he
  cases hv with
  | cons hq hv =>
    rename_i v vs
    refine ⟨v, ?_, hq⟩
    have hcell := hc 0 v (by simp)
    simp only [Nat.add_zero] at hcell
    simp [loadVar, Sem.run_bind, run_isAgg h2, isRow_not h5 ha, hcell]
theorem elemK_sound (ok : CxOK cx) {t : TypeId} {sz : Nat} {e : List AV} {j : Nat} {K : AV → Prop} (h : elemK cx t sz e j K) {b o : Nat} (he : ElemAt w μ F b o e) (hl : e.length = sz) :
    ∃ v av, (loadVar t ⟨b, o + j, none⟩).run cx.P w = .ok v w ∧ K av ∧ Rep w μ F av v := by
  unfold elemK at h
  cases ht : cx.ty t with
  | none => rw [ht] at h; exact h.elim
  | some ti =>
    obtain ⟨d, n, bs, z⟩ := ti
    rw [ht] at h
    simp only at h
    cases ha : isAggT d with
    | false =>
      rw [ha] at h
      simp only at h
      obtain ⟨_, h⟩ := dropK_iff h
      unfold asV at h
      cases hd : e.drop j with
      | nil => rw [hd] at h; exact h.elim
      | cons c cs =>
        rw [hd] at h
        have he' := he.drop j
        rw [hd] at he'
        obtain ⟨v, h1, h2⟩ := load_one ok ht ha he'
        exact ⟨v, c, h1, h, h2⟩
    | true =>
      rw [ha] at h
      simp only at h
      cases j with
      | zero =>
        simp only at h
        split at h
        · rename_i hb
          have hn := Nat.eq_of_beq_eq_true hb
          obtain ⟨v, h1, h2⟩ := load_agg ok ht ha he (hl.trans hn.symm)
          exact ⟨v, _, h1, h, h2⟩
        · obtain ⟨hle, h⟩ := takeK_iff h
          obtain ⟨v, h1, h2⟩ := load_agg ok ht ha (he.take n) (by simp; omega)
          exact ⟨v, _, h1, h, h2⟩
      | succ j =>
        simp only at h
        obtain ⟨_, h⟩ := dropK_iff h
        obtain ⟨hle, h⟩ := takeK_iff h
        obtain ⟨v, h1, h2⟩ := load_agg ok ht ha ((he.drop (j + 1)).take n) (by simp at hle ⊢; omega)
        exact ⟨v, _, h1, h, h2⟩
/-- An element of a live row. -/
theorem HRep.elem {H : HH} (h : HRep w μ F H) {r : Id} {sz bs : Nat} {es : List (List AV)} (hr : H r = some (.cells sz bs es)) {i : Nat} {e : List AV} (he : es[i]? = some e) {l : Loc} (hl : μ r = some l) {b : Nat} (hb : l.b = some b) :
    ElemAt w μ F b (l.base + i * l.sz) e ∧ e.length = sz ∧ l.sz = sz := by
  obtain ⟨l', hl', hrow⟩ := h.rows r _ hr
  obtain rfl := Option.some.inj (hl'.symm.trans hl)
  obtain ⟨h1, h2, h3, h4, h5⟩ := hrow
  rw [hb] at h5
  obtain ⟨c, el, lo, hi, g1, g2, g3, g4⟩ := h5.h
  obtain ⟨hi', rfl⟩ := List.getElem?_eq_some_iff.1 he
  obtain ⟨k1, k2⟩ := g4 i hi'
  refine ⟨⟨(List.range (es[i]).length).map (fun j => (c[l'.base + i * sz + j]?).getD undef), ?_, ?_⟩, k1, h1⟩
  · refine .of_get (by simp) fun j hj hj' => ?_
    obtain ⟨v, _, a2, a3⟩ := k2 j hj
    simp only [List.getElem_map, List.getElem_range, a2, Option.getD_some]
    exact a3
  · intro j v hv
    obtain ⟨hj, hv⟩ := List.getElem?_eq_some_iff.1 hv
    simp only [List.length_map, List.length_range] at hj
    simp only [List.getElem_map, List.getElem_range] at hv
    obtain ⟨u, _, a2, _⟩ := k2 j hj
    rw [a2] at hv
    simp only [Option.getD_some] at hv
    subst hv
    rw [h1]
    simp [World.cell?, g1, a2]
theorem fptr_elem {sz n : Nat} {el : Nat → List AV} {i j : Nat} {x : Value} (h : RepF w F (.fptr sz n el i j) x) (hi : i < n) :
    ∃ b o, F b ∧ x = .pointer (some ⟨b, o + j, none⟩) ∧ ElemAt w μ F b o (el i) ∧ (el i).length = sz := by
  cases h with
  | fp vs _ hF hl hv hr =>
    rename_i b o _
    refine ⟨b, o + i * sz, hF, rfl, ⟨(List.range (el i).length).map (vs i), .of_get (by simp) fun k hk hk' => ?_, fun k v hv' => ?_⟩, hl i hi⟩
    · simp only [List.getElem_map, List.getElem_range]; exact .frz (hr i k hi hk)
    · obtain ⟨hk, hv'⟩ := List.getElem?_eq_some_iff.1 hv'
      simp only [List.length_map, List.length_range] at hk
      simp only [List.getElem_map, List.getElem_range] at hv'
      subst hv'
      exact (hv i k hi (by rw [hl i hi] at hk; exact hk)).1
theorem loadK_sound (ok : CxOK cx) {H : HH} (h : HRep w μ F H) {t : TypeId} {p : AV} {K : AV → Prop} (hk : loadK cx t H K p) {x : Value} (hp : Rep w μ F p x) :
    ∃ v av, (Instr.loadAt t x).run cx.P w = .ok v w ∧ K av ∧ Rep w μ F av v := by
  cases p <;> simp only [loadK] at hk
  case ptr r i j =>
    obtain ⟨l, b, h1, h2, rfl⟩ := Rep_ptr hp
    split at hk
    · rename_i sz bs es hr
      unfold nthK at hk
      split at hk
      · rename_i e he
        obtain ⟨g1, g2, g3⟩ := h.elem hr he h1 h2
        obtain ⟨v, av, a1, a2, a3⟩ := elemK_sound ok hk g1 g2
        refine ⟨v, av, ?_, a2, a3⟩
        simp only [Instr.loadAt, Instr.sureAddr, Sem.run_bind, Sem.run_pure, Result.andThen_ok]
        exact a1
      · exact hk.elim
    · exact hk.elim
  case fptr sz n el i j =>
    obtain ⟨hi, hk⟩ := hk
    obtain ⟨b, o, _, rfl, g1, g2⟩ := fptr_elem (μ := μ) (Rep_fptr hp) hi
    obtain ⟨v, av, a1, a2, a3⟩ := elemK_sound ok hk g1 g2
    refine ⟨v, av, ?_, a2, a3⟩
    simp only [Instr.loadAt, Instr.sureAddr, Sem.run_bind, Sem.run_pure, Result.andThen_ok]
    exact a1
end
end Go.Eng

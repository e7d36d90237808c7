/- Eng00: an engine for the program's code, and walks of its functions (A B C). -/
import Derived.Calls
import Derived.Tactics
import Derived.Below
import Derived.Laws.Sem
/- An engine of our own: abstract values, and a computable predicate transformer over the model's code. What is proved: nothing here; the soundness stands in the next texts. -/
namespace Go.Eng
/-- A value of the program's documents, as a tree. -/
inductive GV where
  | mk (kind int : Int) (text : ByteArray) (list : List GV) (doc : List (ByteArray × GV))
instance : Inhabited GV := ⟨.mk 0 0 .empty [] []⟩
def GV.kind : GV → Int | .mk k _ _ _ _ => k
def GV.int : GV → Int | .mk _ k _ _ _ => k
def GV.text : GV → ByteArray | .mk _ _ t _ _ => t
def GV.list : GV → List GV | .mk _ _ _ l _ => l
def GV.doc : GV → List (ByteArray × GV) | .mk _ _ _ _ d => d
/-- Expressions, as trees. -/
inductive Nd where
  | lit (g : GV)
  | con (g : GV)
  | fld (p : List ByteArray)
  | var (n : ByteArray) (p : List ByteArray)
  | lst (l : List Nd)
  | docm (l : List (ByteArray × Nd))
  | loop (op as : ByteArray) (over : Nd) (first : Option Nd) (body : Nd)
  | call (op : ByteArray) (args : List Nd)
instance : Inhabited Nd := ⟨.lit default⟩
/-- What is unfolded on demand. -/
inductive Dat where
  | gl (l : List GV)
  | gd (l : List (ByteArray × GV))
  | gs (l : List ByteArray)
  | gn (l : List Nd)
  | gp (l : List (ByteArray × Nd))
abbrev Id := Nat × Nat × Nat
inductive AV where
  | lit (v : Value)
  | top
  | fsl (c : Option Nat) (sz bs n : Nat) (el : Nat → List AV)
  | fptr (sz n : Nat) (el : Nat → List AV) (i j : Nat)
  | row (r : Id) (o n : Nat) (c : Option Nat)
  | ptr (r : Id) (i j : Nat)
  | clo (fn : Fn) (first cap : List AV)
  | ifc (t : TypeId) (v : AV)
  | agg (cs : List AV)
  | tup (vs : List AV)
  | mref (r : Id)
  | lz (d : Dat)
  deriving Inhabited
abbrev AV.int (n : Int) : AV := .lit (.int .i64 n)
abbrev AV.bool (b : Bool) : AV := .lit (.bool b)
abbrev AV.str (s : ByteArray) : AV := .lit (.string s)
abbrev AV.nil : AV := .fsl (some 0) 0 0 0 (fun _ => [])
def GV.cells (a : GV) : List AV := [.lit (.int .i64 a.kind), .lit (.int .i64 a.int), .lit (.string a.text), .lz (.gl a.list), .lz (.gd a.doc)]
def fcells (f : ByteArray × GV) : List AV := .lit (.string f.1) :: f.2.cells
/-- The types of the nodes. -/
def Nd.ty : Nd → TypeId
  | .lit _ => 170
  | .con _ => 230
  | .fld _ => 162
  | .var _ _ => 161
  | .lst _ => 166
  | .docm _ => 236
  | .loop _ _ _ _ _ => 287
  | .call _ _ => 232
def Nd.val : Nd → AV
  | .lit g => .agg g.cells
  | .con g => .agg g.cells
  | .fld p => .lz (.gs p)
  | .var n p => .agg [.lit (.string n), .lz (.gs p)]
  | .lst l => .lz (.gn l)
  | .docm l => .lz (.gp l)
  | .loop op as over first body => .agg [.lit (.string op), .lit (.string as), .ifc over.ty over.val, (match first with | none => .lit .nilIface | some n => .ifc n.ty n.val), .ifc body.ty body.val]
  | .call op args => .agg [.lit (.string op), .lz (.gn args)]
def Nd.av (n : Nd) : AV := .ifc n.ty n.val
def pcells (p : ByteArray × Nd) : List AV := [.lit (.string p.1), p.2.av]
def Dat.unf : Dat → AV
  | .gl l => .fsl none 5 80 l.length (fun i => (l.getD i default).cells)
  | .gd l => .fsl none 6 96 l.length (fun i => fcells (l.getD i default))
  | .gs l => .fsl none 1 16 l.length (fun i => [.lit (.string (l.getD i default))])
  | .gn l => .fsl none 1 16 l.length (fun i => [(l.getD i default).av])
  | .gp l => .fsl none 2 32 l.length (fun i => pcells (l.getD i default))
inductive Row where
  | cells (sz bs : Nat) (es : List (List AV))
  | map (kv : List (AV × AV))
  | iter (s : ByteArray) (p : Nat)
  | dead
abbrev TT := Nat → Option AV
abbrev HH := Id → Option Row
def TT.put (T : TT) (k : Nat) (v : AV) : TT := fun n => match Nat.beq n k with | true => some v | false => T n
def TT.del (T : TT) (k : Nat) : TT := fun n => match Nat.beq n k with | true => none | false => T n
def TT.emp : TT := fun _ => none
def ideq (p q : Id) : Bool := match Nat.beq p.2.1 q.2.1 with | true => (match Nat.beq p.1 q.1 with | true => Nat.beq p.2.2 q.2.2 | false => false) | false => false
def HH.put (H : HH) (k : Id) (v : Row) : HH := fun n => match ideq n k with | true => some v | false => H n
def HH.emp : HH := fun _ => none
/-- What the evaluator needs of a type. -/
inductive TD where
  | other
  | int (k : IntKind) | bool | string
  | slice (elem : TypeId)
  | struct (offs : List (Nat × Nat))
  | ptr (elem : TypeId)
  | iface
  | map (k e : TypeId)
  | func
structure TI where
  desc : TD
  size : Nat
  bytes : Nat
  zero : List AV
structure Cx where
  P : Program
  ty : TypeId → Option TI
  glob : Nat → Option (List AV)
  meth : TypeId → String → Option FuncId
  keep : List Nat
  laid : World → Prop
def R : Nat := 140737488355328
def constA1 : Value → Option AV
  | .bool b => some (.lit (.bool b))
  | .int k n => some (.lit (.int k n))
  | .string s => match Nat.ble s.size 100000 with | true => some (.lit (.string s)) | false => none
  | .pointer none => some (.lit (.pointer none))
  | .slice none 0 0 => some (.fsl (some 0) 0 0 0 (fun _ => []))
  | .map none => some (.lit (.map none))
  | .nilFunc => some (.lit .nilFunc)
  | .nilIface => some (.lit .nilIface)
  | _ => none
def constL : List Value → Option (List AV)
  | [] => some []
  | v :: l => match constA1 v, constL l with | some a, some r => some (a :: r) | _, _ => none
def constAV : Value → Option AV
  | .agg ⟨l⟩ => match constL l with | some r => some (.agg r) | none => none
  | v => constA1 v
def ev (cx : Cx) (T : TT) : Operand → Option AV
  | .tmp t => T t
  | .const v => constAV v
  | .func f => some (.clo (.func f) [] [])
  | .global g => match cx.glob g with | some cs => some (.fptr cs.length 1 (fun _ => cs) 0 0) | none => none
def withE (cx : Cx) (T : TT) (x : Operand) (k : AV → Prop) : Prop := match ev cx T x with | some v => k v | none => False
/-- Choices of ours, each with a name. -/
inductive BoxP (X Y : Prop) : Prop | row (h : X) | frz (h : Y)
inductive BuildP (X Y : Prop) : Prop | row (h : X) | frz (h : Y)
inductive AppP (X Y : Prop) : Prop | fit (h : X) | grow (h : Y)
inductive RegP (X Y Z : Prop) : Prop | go (h : X) | view (h : Y) | raw (h : Z)
inductive DrawP (X Y : Prop) : Prop | ord (h : X) | all (h : Y)
/-- A way for each answer of a test. -/
def Br (b : Bool) (X Y : Unit → Prop) : Prop := match b with | true => X () | false => Y ()
def takeK : Nat → List AV → (List AV → Prop) → Prop
  | 0, _, k => k []
  | n + 1, c :: cs, k => takeK n cs (fun l => k (c :: l))
  | _ + 1, [], _ => False
def dropK : Nat → List AV → (List AV → Prop) → Prop
  | 0, l, k => k l
  | n + 1, _ :: cs, k => dropK n cs k
  | _ + 1, [], _ => False
def asV (n : Nat) (agg : Bool) (K : AV → Prop) (cs : List AV) : Prop :=
  match agg with
  | true => takeK n cs (fun l => K (.agg l))
  | false => match cs with | c :: _ => K c | [] => False
def nthK (es : List (List AV)) (i : Nat) (k : List AV → Prop) : Prop := match es[i]? with | some e => k e | none => False
def isAggT : TD → Bool | .struct _ => true | _ => false
def partK (cx : Cx) (t : TypeId) (K : AV → Prop) (l : List AV) : Prop := match cx.ty t with | some ⟨d, n, _, _⟩ => asV n (isAggT d) K l | none => False
/-- The part of an element of sz cells from cell j on, read as a t: the whole of it as it stands. -/
def elemK (cx : Cx) (t : TypeId) (sz : Nat) (e : List AV) (j : Nat) (K : AV → Prop) : Prop := match cx.ty t with
  | none => False
  | some ⟨d, n, _, _⟩ => match isAggT d with
    | false => dropK j e (asV n false K)
    | true => match j with
      | 0 => match Nat.beq n sz with
        | true => K (.agg e)
        | false => takeK n e (fun l => K (.agg l))
      | j + 1 => dropK (j + 1) e fun l => takeK n l (fun l => K (.agg l))
def loadK (cx : Cx) (t : TypeId) (H : HH) (K : AV → Prop) : AV → Prop
  | .ptr r i j =>
    match H r with
    | some (.cells sz _ es) => nthK es i fun e => elemK cx t sz e j K
    | _ => False
  | .fptr sz n el i j => i < n ∧ elemK cx t sz (el i) j K
  | _ => False
def updHead : List AV → List AV → (List AV → Prop) → Prop
  | [], e, k => k e
  | v :: vs, _ :: e, k => updHead vs e (fun l => k (v :: l))
  | _ :: _, [], _ => False
def updN : Nat → List AV → List AV → (List AV → Prop) → Prop
  | 0, vs, e, k => updHead vs e k
  | j + 1, vs, c :: e, k => updN j vs e (fun l => k (c :: l))
  | _ + 1, _, [], _ => False
def cellsOf : AV → List AV | .agg cs => cs | v => [v]
/-- What one cell can hold. -/
def okCell : AV → Bool | .agg _ => false | .tup _ => false | .lit (.tuple _) => false | _ => true
def okCells (l : List AV) (X : Prop) : Prop := match l with | [] => X | v :: l => match okCell v with | true => okCells l X | false => False
def storeK (H : HH) (v : AV) (K : HH → Prop) : AV → Prop
  | .ptr r i j =>
    match H r with
    | some (.cells sz bs es) => okCells (cellsOf v) <| nthK es i fun e => updN j (cellsOf v) e fun e' => match es with
      | [_] => K (H.put r (.cells sz bs [e']))
      | es => K (H.put r (.cells sz bs (es.set i e')))
    | _ => False
  | _ => False
def fieldOff (d : TD) (f : Nat) (k : Nat → Prop) : Prop :=
  match d with
  | .struct offs => match offs[f]? with | some (o, _) => k o | none => False
  | _ => False
def fieldAddrK (off : Nat) (K : AV → Prop) : AV → Prop
  | .ptr r i j => match j with | 0 => K (.ptr r i off) | j + 1 => K (.ptr r i (j + 1 + off))
  | .fptr sz n el i j => match j with | 0 => K (.fptr sz n el i off) | j + 1 => K (.fptr sz n el i (j + 1 + off))
  | _ => False
def idxK (i : Int) (n : Nat) (K : Nat → Prop) : Prop := match i with
  | .ofNat m => m < n ∧ K m
  | .negSucc _ => False
def indexAddrK (H : HH) (K : AV → Prop) (sz : Nat) (v ix : AV) : Prop :=
  match ix with
  | .lit (.int _ i) =>
    match v with
    | .fsl _ sz' _ n el => match Nat.beq sz sz' with | true => idxK i n fun m => K (.fptr sz' n el m 0) | false => False
    | .row r o n _ => match H r with
      | some (.cells sz' _ _) => match Nat.beq sz sz' with
        | true => idxK i n fun m => match o with | 0 => K (.ptr r m 0) | o + 1 => K (.ptr r (o + 1 + m) 0)
        | false => False
      | _ => False
    | .lz d => match d.unf with
      | .fsl _ sz' _ n el => match Nat.beq sz sz' with | true => idxK i n fun m => K (.fptr sz' n el m 0) | false => False
      | _ => False
    | _ => False
  | _ => False
def lenK (d : TD) (K : AV → Prop) (x : AV) : Prop :=
  match d with
  | .string => match x with
    | .lit (.string s) => K (.lit (.int .i64 s.size))
    | _ => False
  | .slice _ => match x with
    | .fsl _ _ _ n _ => K (.lit (.int .i64 n))
    | .row _ _ n _ => K (.lit (.int .i64 n))
    | .lz d => match d.unf with
      | .fsl _ _ _ n _ => K (.lit (.int .i64 n))
      | _ => False
    | _ => False
  | _ => False
def eqlB (op : BinOp) (b : Bool) (K : AV → Prop) : Prop := match op with | .eql => K (.lit (.bool b)) | .neq => K (.lit (.bool (!b))) | _ => False
def ikeq : IntKind → IntKind → Bool
  | .i8, .i8 | .i16, .i16 | .i32, .i32 | .i64, .i64 | .u8, .u8 | .u16, .u16 | .u32, .u32 | .u64, .u64 => true
  | _, _ => false
/-- A pointer, an interface value or a function held against nil. -/
def nilK (d : TD) (cst : Bool) (op : BinOp) (K : AV → Prop) (x y : AV) : Prop :=
  match d with
  | .ptr _ => match x, y with
    | .lit (.pointer none), .lit (.pointer none) => eqlB op true K
    | .ptr _ _ _, .lit (.pointer none) => eqlB op false K
    | .fptr _ _ _ _ _, .lit (.pointer none) => eqlB op false K
    | _, _ => False
  | .iface => match x, y with
    | .lit .nilIface, .lit .nilIface => match cst with | true => eqlB op true K | false => False
    | .ifc _ _, .lit .nilIface => eqlB op false K
    | _, _ => False
  | .func => match x, y with
    | .lit .nilFunc, .lit .nilFunc => eqlB op true K
    | .clo _ _ _, .lit .nilFunc => eqlB op false K
    | _, _ => False
  | _ => False
def intK (op : BinOp) (K : AV → Prop) (k k' : IntKind) (a b : Int) : Prop :=
  match op with
  | .shl => 0 ≤ b ∧ K (.lit (.int k (k.wrap (a * 2 ^ (min b.toNat k.bits)))))
  | .shr => 0 ≤ b ∧ K (.lit (.int k (a.fdiv (2 ^ (min b.toNat k.bits)))))
  | op => match ikeq k k' with
    | false => False
    | true => match op with
      | .add => K (.lit (.int k (k.wrap (a + b))))
      | .sub => K (.lit (.int k (k.wrap (a - b))))
      | .mul => K (.lit (.int k (k.wrap (a * b))))
      | .quo => b ≠ 0 ∧ K (.lit (.int k (k.wrap (a.tdiv b))))
      | .rem => b ≠ 0 ∧ K (.lit (.int k (a.tmod b)))
      | .eql => K (.lit (.bool (a == b)))
      | .neq => K (.lit (.bool (a != b)))
      | .lss => K (.lit (.bool (a < b)))
      | .leq => K (.lit (.bool (a ≤ b)))
      | .gtr => K (.lit (.bool (a > b)))
      | .geq => K (.lit (.bool (a ≥ b)))
      | .and => K (.lit (.int k (k.wrap (BitVec.ofInt k.bits a &&& BitVec.ofInt k.bits b).toNat)))
      | .or => K (.lit (.int k (k.wrap (BitVec.ofInt k.bits a ||| BitVec.ofInt k.bits b).toNat)))
      | .xor => K (.lit (.int k (k.wrap (BitVec.ofInt k.bits a ^^^ BitVec.ofInt k.bits b).toNat)))
      | .andNot => K (.lit (.int k (k.wrap (BitVec.ofInt k.bits a &&& ~~~ BitVec.ofInt k.bits b).toNat)))
      | _ => False
def binK (op : BinOp) (d : TD) (cst : Bool) (K : AV → Prop) (x y : AV) : Prop :=
  match d with
  | .int _ => match x, y with
    | .lit (.int k a), .lit (.int k' b) => intK op K k k' a b
    | _, _ => False
  | .string => match x, y with
    | .lit (.string a), .lit (.string b) =>
      match op with
      | .add => a.size + b.size ≤ R ∧ K (.lit (.string (a ++ b)))
      | .eql => K (.lit (.bool (decide (a = b))))
      | .neq => K (.lit (.bool (!(decide (a = b)))))
      | .lss => K (.lit (.bool (Op.bytesLess a.data.toList b.data.toList)))
      | .leq => K (.lit (.bool (Op.bytesLess a.data.toList b.data.toList || decide (a = b))))
      | .gtr => K (.lit (.bool (!(Op.bytesLess a.data.toList b.data.toList || decide (a = b)))))
      | .geq => K (.lit (.bool (!(Op.bytesLess a.data.toList b.data.toList))))
      | _ => False
    | _, _ => False
  | .bool => match x, y with
    | .lit (.bool a), .lit (.bool b) => eqlB op (a == b) K
    | _, _ => False
  | d => nilK d cst op K x y
def bytesOf (n : Nat) (el : Nat → List AV) : List UInt8 := (List.range n).map fun i => match el i with | [.lit (.int .u8 b)] => UInt8.ofNat b.toNat | _ => 0
def fresh (H : HH) (id : Id) (X : Prop) : Prop := match H id with | none => X | some _ => False
def isU8 (t : Option TI) : Bool := match t with | some ⟨.int .u8, sz, bs, _⟩ => Nat.beq sz 1 && Nat.beq bs 1 | _ => false
def convK (cx : Cx) (id : Id) (src dst : TypeId) (H : HH) (K : AV → HH → Prop) (x : AV) : Prop :=
  match cx.ty src, cx.ty dst with
  | some ⟨s, _, _, _⟩, some ⟨d, _, _, _⟩ => match d with
    | .int k => match x with | .lit (.int _ n) => K (.lit (.int k (k.wrap n))) H | _ => False
    | .string => match s with
      | .string => match x with | .lit (.string s) => K (.lit (.string s)) H | _ => False
      | .slice e => match isU8 (cx.ty e) with
        | true => match x with
          | .fsl _ 1 1 n el => (∀ i, i < n → ∃ b : Nat, b < 256 ∧ el i = [.lit (.int .u8 b)]) ∧ K (.lit (.string ⟨(bytesOf n el).toArray⟩)) H
          | .row r o n _ => match H r with
            | some (.cells 1 _ es) => (o + n ≤ es.length ∧ n ≤ R ∧ ∀ i, i < n → ∃ b : Nat, b < 256 ∧ es.getD (o + i) [] = [.lit (.int .u8 b)]) ∧ K (.lit (.string ⟨(bytesOf n fun i => es.getD (o + i) []).toArray⟩)) H
            | _ => False
          | _ => False
        | false => False
      | _ => False
    | .slice e => match s with
      | .string => match isU8 (cx.ty e) with
        | true => match x with
          | .lit (.string s) => fresh H id (K (.row id 0 s.size none) (H.put id (.cells 1 1 (s.data.toList.map fun b => [.lit (.int .u8 b.toNat)]))))
          | _ => False
        | false => False
      | _ => False
    | _ => False
  | _, _ => False
def asInt (x : AV) (k : Int → Prop) : Prop := match x with | .lit (.int _ n) => k n | _ => False
def optE (cx : Cx) (T : TT) (x : Option Operand) (k : Option AV → Prop) : Prop := match x with | some x => withE cx T x fun v => k (some v) | none => k none
def within (i : Int) (n : Nat) (K : Nat → Prop) : Prop := match i with
  | .ofNat m => m ≤ n ∧ K m
  | .negSucc _ => False
def bMax (mx : Option AV) (cap : Nat) (k : Option Nat → Prop) : Prop := match mx with | some m => asInt m fun m => within m cap fun m => k (some m) | none => k none
def bHi (hi : Option AV) (n cap : Nat) (k : Nat → Prop) : Prop := match hi with | some h => asInt h fun h => within h cap k | none => k n
def bLo (lo : Option AV) (h : Nat) (k : Nat → Prop) : Prop := match lo with | some l => asInt l fun l => within l h k | none => k 0
/-- low, high, max with their defaults; each within (a max without a high does not occur). -/
def bndK (lo hi mx : Option AV) (n cap : Nat) (k : Nat → Nat → Option Nat → Prop) : Prop :=
  match mx, hi with
  | some _, none => False
  | _, _ => bMax mx cap fun m => bHi hi n (match m with | some m => m | none => cap) fun h => bLo lo h fun l => k l h m
def capOf (m : Option Nat) (c : Option Nat) (l : Nat) : Option Nat := match m with | some m => some (m - l) | none => match c with | some k => some (k - l) | none => none
def sliceF (sz : Nat) (lo hi mx : Option AV) (K : AV → Prop) : AV → Prop
  | .fsl c sz' bs n el => match Nat.beq sz sz' with
    | true => bndK lo hi mx n n fun l h m => match l with
      | 0 => K (.fsl (capOf m c 0) sz' bs h el)
      | l + 1 => K (.fsl (capOf m c (l + 1)) sz' bs (h - (l + 1)) (fun i => el (l + 1 + i)))
    | false => False
  | _ => False
def rowFrom (K : AV → Prop) (r : Id) (o l h : Nat) (c : Option Nat) : Prop := match l with
  | 0 => K (.row r o h c)
  | l + 1 => match o with
    | 0 => K (.row r (l + 1) (h - (l + 1)) c)
    | o + 1 => K (.row r (o + 1 + (l + 1)) (h - (l + 1)) c)
def rcap (c : Option Nat) (m : Nat) : Nat := match c with | none => m | some k => min k m
def sliceK (cx : Cx) (t : TypeId) (H : HH) (lo hi mx : Option AV) (K : AV → Prop) (x : AV) : Prop :=
  match cx.ty t with
  | some ⟨.string, _, _, _⟩ => match x with
    | .lit (.string s) => match mx with
      | none => bndK lo hi none s.size s.size fun l h _ => K (.lit (.string (s.extract l h)))
      | some _ => False
    | _ => False
  | some ⟨.slice e, _, _, _⟩ => match cx.ty e with
    | some ⟨_, sz, _, _⟩ => match x with
      | .fsl c sz' bs n el => sliceF sz lo hi mx K (.fsl c sz' bs n el)
      | .lz d => sliceF sz lo hi mx K d.unf
      | .row r o n c => match H r with
        | some (.cells sz' _ es) => match Nat.beq sz sz' with
          | true => o + n ≤ es.length ∧ bndK lo hi mx n (rcap c (es.length - o)) fun l h m => rowFrom K r o l h (capOf m c l)
          | false => False
        | _ => False
      | _ => False
    | none => False
  | _ => False
/-- A map's entry of a text. -/
def findS (s : ByteArray) : List (AV × AV) → Option (Option AV)
  | [] => some none
  | (k, v) :: l => match k with
    | .lit (.string t) => (match decide (s = t) with | true => some (some v) | false => findS s l)
    | _ => none
def setS (s : ByteArray) (v : AV) : List (AV × AV) → Option (List (AV × AV))
  | [] => some [(.lit (.string s), v)]
  | (k, u) :: l => match k with
    | .lit (.string t) => (match decide (s = t) with | true => some ((.lit (.string s), v) :: l) | false => match setS s v l with | some r => some ((.lit (.string t), u) :: r) | none => none)
    | _ => none
inductive Out where
  | ret (v : AV)
  | pan (v : AV)
def evs (cx : Cx) (T : TT) : List Operand → (List AV → Prop) → Prop
  | [], k => k []
  | x :: xs, k => withE cx T x fun v => evs cx T xs fun l => k (v :: l)
def buildSliceK (sz : Nat) : Nat → List (Nat × AV) → (List (List AV) → Prop) → Prop
  | _, [], k => k []
  | n, (i, v) :: l, k => match Nat.beq i n, Nat.beq (cellsOf v).length sz with
    | true, true => okCells (cellsOf v) (buildSliceK sz (n + 1) l (fun r => k (cellsOf v :: r)))
    | _, _ => False
def partsK (cx : Cx) (T : TT) : List (Nat × Operand) → (List (Nat × AV) → Prop) → Prop
  | [], k => k []
  | (i, x) :: xs, k => withE cx T x fun v => partsK cx T xs fun l => k ((i, v) :: l)
def fillK (offs : List (Nat × Nat)) : List (Nat × AV) → List AV → (List AV → Prop) → Prop
  | [], z, k => k z
  | (i, v) :: l, z, k => match offs[i]? with
    | some (o, n) => match Nat.beq (cellsOf v).length n with
      | true => okCells (cellsOf v) (updN o (cellsOf v) z (fun z' => fillK offs l z' k))
      | false => False
    | none => False
/-- What is appended or copied: how many elements, and which. -/
def contentK (H : HH) (sz : Nat) (k : Nat → List (List AV) → Prop) : AV → Prop
  | .row r o n _ => match H r with
    | some (.cells sz' _ es) => match Nat.beq sz sz' with
      | true => match o, n, es with
        | 0, 1, [e] => k 1 [e]
        | o, n, es => o + n ≤ es.length ∧ k n ((es.drop o).take n)
      | false => False
    | _ => False
  | .fsl _ sz' _ n el => match n with
    | 0 => k 0 []
    | n + 1 => match Nat.beq sz sz' with | true => k (n + 1) ((List.range (n + 1)).map el) | false => False
  | .lz d => match d.unf with | .fsl _ sz' _ n el => (match Nat.beq sz sz' with | true => k n ((List.range n).map el) | false => False) | _ => False
  | .lit (.string s) => match sz with | 1 => k s.size (s.data.toList.map fun b => [.lit (.int .u8 b.toNat)]) | _ => False
  | _ => False
def over (es : List (List AV)) (o : Nat) (l : List (List AV)) : List (List AV) := es.take o ++ l ++ es.drop (o + l.length)
def appendTo (sz bs : Nat) (id : Id) (H : HH) (m : Nat) (xs : List (List AV)) (K : AV → HH → Prop) : AV → Prop
  | .fsl (some 0) _ _ 0 _ => m * bs ≤ R ∧ fresh H id (K (.row id 0 m none) (H.put id (.cells sz bs xs)))
  | .fsl (some c) sz' _ n el => match Nat.beq sz sz' with
    | true => (c < n + m ∧ (n + m) * bs ≤ R) ∧ fresh H id (K (.row id 0 (n + m) none) (H.put id (.cells sz bs ((List.range n).map el ++ xs))))
    | false => False
  | .row r o n none => match H r with
    | some (.cells sz' bs' es) => match Nat.beq sz sz', Nat.beq bs bs' with
      | true, true =>
        AppP (o + n + m ≤ es.length ∧ K (.row r o (n + m) none) (H.put r (.cells sz bs (over es (o + n) xs))))
        ((o + n ≤ es.length ∧ (n + m) * bs ≤ R) ∧ fresh H id (K (.row id 0 (n + m) none) ((H.put r .dead).put id (.cells sz bs ((es.drop o).take n ++ xs)))))
      | _, _ => False
    | _ => False
  | .row r o n (some k) => match H r with
    | some (.cells sz' bs' es) => match Nat.beq sz sz', Nat.beq bs bs' with
      | true, true => (o + n ≤ es.length ∧ k < n + m ∧ (n + m) * bs ≤ R) ∧ fresh H id (K (.row id 0 (n + m) none) (H.put id (.cells sz bs ((es.drop o).take n ++ xs))))
      | _, _ => False
    | _ => False
  | _ => False
def appendK (cx : Cx) (id : Id) (t t2 : TypeId) (H : HH) (K : AV → HH → Prop) (s x : AV) : Prop :=
  match cx.ty t with
  | some ⟨.slice e, _, _, _⟩ => match cx.ty e with
    | some ⟨_, sz, bs, _⟩ => match Nat.ble 1 sz, Nat.ble 1 bs with
      | true, true => match cx.ty t2 with
        | some ⟨.slice _, _, _, _⟩ => contentK H sz (fun m xs => appendTo sz bs id H m xs K s) x
        | some ⟨.string, _, _, _⟩ => contentK H sz (fun m xs => appendTo sz bs id H m xs K s) x
        | _ => False
      | _, _ => False
    | none => False
  | _ => False
def copyK (cx : Cx) (t : TypeId) (H : HH) (K : AV → HH → Prop) (d x : AV) : Prop :=
  match cx.ty t with
  | some ⟨.slice e, _, _, _⟩ => match cx.ty e with
    | some ⟨_, sz, _, _⟩ => match d with
      | .row r o n _ => match H r with
        | some (.cells sz' bs es) => match Nat.beq sz sz' with
          | true => o + n ≤ es.length ∧ contentK H sz (fun m xs => K (.lit (.int .i64 (min m n : Nat))) (H.put r (.cells sz' bs (over es o (xs.take n))))) x
          | false => False
        | _ => False
      | _ => False
    | none => False
  | _ => False
def clearK (cx : Cx) (t : TypeId) (H : HH) (K : AV → HH → Prop) : AV → Prop
  | .row r o n _ => match cx.ty t with
    | some ⟨.slice e, _, _, _⟩ => match cx.ty e with
      | some ⟨_, sz, _, z⟩ => match H r with
        | some (.cells sz' bs es) => match Nat.beq sz sz' with
          | true => o + n ≤ es.length ∧ K (.lit (.tuple #[])) (H.put r (.cells sz' bs (over es o (List.replicate n z))))
          | false => False
        | _ => False
      | none => False
    | _ => False
  | _ => False
def mmK (mx : Bool) (k : IntKind) (K : AV → Prop) : Int → List AV → Prop
  | x, [] => K (.lit (.int k x))
  | x, .lit (.int _ y) :: l => match mx with
    | true => mmK mx k K (if y > x then y else x) l
    | false => mmK mx k K (if y < x then y else x) l
  | _, _ :: _ => False
def minmaxK (mx : Bool) (K : AV → Prop) : List AV → Prop
  | .lit (.int k x) :: l => mmK mx k K x l
  | _ => False
/-- No name of a row in it. -/
def idf : AV → Bool
  | .row .. => false
  | .ptr .. => false
  | .mref _ => false
  | .ifc _ v => idf v
  | .agg l => idfL l
  | .tup l => idfL l
  | .clo _ a b => idfL a && idfL b
  | _ => true
where idfL : List AV → Bool
  | [] => true
  | v :: l => idf v && idfL l
abbrev idfL := idf.idfL
end Go.Eng
/- What an abstract value says of a value of the model in a world; what a function's specification says. -/
namespace Go.Eng
inductive All2 {α β : Type} (Q : α → β → Prop) : List α → List β → Prop
  | nil : All2 Q [] []
  | cons {a b l m} : Q a b → All2 Q l m → All2 Q (a :: l) (b :: m)
structure Loc where
  b : Option Nat
  base : Nat
  sz : Nat
  bs : Nat
  cap : Nat
def Plain : Value → Prop
  | .bool _ | .int _ _ | .float _ _ | .complex _ _ _ => True
  | .string s => s.size ≤ R
  | .pointer none | .map none | .chan none | .nilFunc | .nilIface => True
  | .tuple vs => vs = #[]
  | _ => False
/-- Memory that nobody writes: 'F' are the blocks. -/
inductive RepF (w : World) (F : Nat → Prop) : AV → Value → Prop
  | lit {v} : Plain v → RepF w F (.lit v) v
  | top {v : Value} : v.oneCell' = true → RepF w F .top v
  | fsE {c sz bs el a k} : (∀ m, c = some m → k = m) → RepF w F (.fsl c sz bs 0 el) (.slice a 0 k)
  | fs {c sz bs n el b o k} (vs : Nat → Nat → Value) : 0 < n → F b → (∀ m, c = some m → k = m) → n ≤ k → n * bs ≤ R →
      (∀ i, i < n → (el i).length = sz) → (∀ i j, i < n → j < sz → w.cell? ⟨b, o + i * sz + j, none⟩ = some (vs i j) ∧ (vs i j).oneCell' = true) →
      (∀ i j (_ : i < n) (hj : j < (el i).length), RepF w F ((el i)[j]) (vs i j)) → RepF w F (.fsl c sz bs n el) (.slice (some ⟨b, o, none⟩) n k)
  | fp {sz n el i j b o} (vs : Nat → Nat → Value) : i < n → F b →
      (∀ i, i < n → (el i).length = sz) → (∀ i j, i < n → j < sz → w.cell? ⟨b, o + i * sz + j, none⟩ = some (vs i j) ∧ (vs i j).oneCell' = true) →
      (∀ i j (_ : i < n) (hj : j < (el i).length), RepF w F ((el i)[j]) (vs i j)) → RepF w F (.fptr sz n el i j) (.pointer (some ⟨b, o + i * sz + j, none⟩))
  | clo {fn} {first cap : List AV} {fs cs : List Value} : first.length = fs.length → cap.length = cs.length →
      (∀ i (h : i < first.length) (h' : i < fs.length), RepF w F first[i] fs[i]) → (∀ i (h : i < cap.length) (h' : i < cs.length), RepF w F cap[i] cs[i]) → RepF w F (.clo fn first cap) (.func fn ⟨fs⟩ ⟨cs⟩)
  | ifc {t v x} : RepF w F v x → RepF w F (.ifc t v) (.iface t x)
  | agg {cs : List AV} {vs : List Value} : cs.length = vs.length → (∀ i (h : i < cs.length) (h' : i < vs.length), RepF w F cs[i] vs[i]) → RepF w F (.agg cs) (.agg ⟨vs⟩)
  | tup {cs : List AV} {vs : List Value} : cs.length = vs.length → (∀ i (h : i < cs.length) (h' : i < vs.length), RepF w F cs[i] vs[i]) → RepF w F (.tup cs) (.tuple ⟨vs⟩)
  | lz {d v} : RepF w F d.unf v → RepF w F (.lz d) v
inductive Rep (w : World) (μ : Id → Option Loc) (F : Nat → Prop) : AV → Value → Prop
  | frz {av v} : RepF w F av v → Rep w μ F av v
  | row0 {r l a c} : μ r = some l → l.b = none → (∀ m, c = some m → m = 0) → Rep w μ F (.row r 0 0 c) (.slice a 0 0)
  | row {r o n c l b a k} : μ r = some l → l.b = some b → a.block = b → (k = 0 ∨ a = ⟨b, l.base + o * l.sz, none⟩) → n ≤ k → (c = none → o + k = l.cap) → (∀ m, c = some m → k = m ∧ o + m ≤ l.cap) → Rep w μ F (.row r o n c) (.slice (some a) n k)
  | ptr {r i j l b} : μ r = some l → l.b = some b → Rep w μ F (.ptr r i j) (.pointer (some ⟨b, l.base + i * l.sz + j, none⟩))
  | clo {fn} {first cap : List AV} {fs cs : List Value} : first.length = fs.length → cap.length = cs.length →
      (∀ i (h : i < first.length) (h' : i < fs.length), Rep w μ F first[i] fs[i]) → (∀ i (h : i < cap.length) (h' : i < cs.length), Rep w μ F cap[i] cs[i]) → Rep w μ F (.clo fn first cap) (.func fn ⟨fs⟩ ⟨cs⟩)
  | ifc {t v x} : Rep w μ F v x → Rep w μ F (.ifc t v) (.iface t x)
  | agg {cs : List AV} {vs : List Value} : cs.length = vs.length → (∀ i (h : i < cs.length) (h' : i < vs.length), Rep w μ F cs[i] vs[i]) → Rep w μ F (.agg cs) (.agg ⟨vs⟩)
  | tup {cs : List AV} {vs : List Value} : cs.length = vs.length → (∀ i (h : i < cs.length) (h' : i < vs.length), Rep w μ F cs[i] vs[i]) → Rep w μ F (.tup cs) (.tuple ⟨vs⟩)
  | mref {r l b} : μ r = some l → l.b = some b → Rep w μ F (.mref r) (.map (some b))
/-- The cells of a row in the world. -/
structure CellsRep (w : World) (μ : Id → Option Loc) (F : Nat → Prop) (l : Loc) (sz bs : Nat) (es : List (List AV)) (b : Nat) : Prop where
  h : ∃ (c : Array Value) (e : TypeId) (lo hi : Nat), w.heap[b]? = some (.cells c e (lo, hi)) ∧ l.base + l.cap * sz ≤ c.size ∧ (∀ o, o < c.size → lo ≤ o → o < hi → False) ∧
    ∀ i (hi : i < es.length), es[i].length = sz ∧ ∀ j (hj : j < es[i].length), ∃ v : Value, v.oneCell' = true ∧ c[l.base + i * sz + j]? = some v ∧ Rep w μ F es[i][j] v
def RowRep (w : World) (μ : Id → Option Loc) (F : Nat → Prop) (l : Loc) : Row → Prop
  | .cells sz bs es => l.sz = sz ∧ l.bs = bs ∧ es.length ≤ l.cap ∧ es.length * bs ≤ R ∧ match l.b with
    | none => es = [] ∧ l.cap = 0
    | some b => CellsRep w μ F l sz bs es b
  | .map kv => ∃ (b : Nat) (es : Array MapEntry) (ck : Nat), l.b = some b ∧ w.heap[b]? = some (.map es ck) ∧ es.size = kv.length ∧ (∀ i (h : i < kv.length) (h' : i < es.size), Rep w μ F kv[i].1 es[i].key ∧ Rep w μ F kv[i].2 es[i].val ∧ es[i].born < ck) ∧
      (∀ i j (h : i < es.size) (h' : j < es.size), es[i].born = es[j].born → i = j)
  | .iter s p => ∃ b, l.b = some b ∧ l.base = 0 ∧ w.heap[b]? = some (.stringIter s p)
  | .dead => True
def Row.live : Row → Bool | .dead => false | _ => true
structure HRep (w : World) (μ : Id → Option Loc) (F : Nat → Prop) (H : HH) : Prop where
  rows : ∀ r row, H r = some row → ∃ l, μ r = some l ∧ RowRep w μ F l row
  dom : ∀ r, H r = none → μ r = none
  inj : ∀ r r' row row' l l' b, H r = some row → row.live = true → H r' = some row' → row'.live = true → μ r = some l → μ r' = some l' → l.b = some b → l'.b = some b → r = r'
  disj : ∀ r row l b, H r = some row → row.live = true → μ r = some l → l.b = some b → ¬ F b
  lt : ∀ b, F b → b < w.heap.size
def Lv (μ : Id → Option Loc) (H : HH) (b : Nat) : Prop := ∃ r row l, H r = some row ∧ row.live = true ∧ μ r = some l ∧ l.b = some b
structure Fr (w : World) (μ : Id → Option Loc) (F : Nat → Prop) (H : HH) (w' : World) (μ' : Id → Option Loc) (F' : Nat → Prop) (H' : HH) : Prop where
  os : w'.os = w.os
  tape : w'.tape = w.tape
  output : w'.output = w.output
  size : w.heap.size ≤ w'.heap.size
  keep : ∀ b, b < w.heap.size → ¬ Lv μ H b → w'.heap[b]? = w.heap[b]?
  mu : ∀ r l, μ r = some l → μ' r = some l
  fr : ∀ b, F b → F' b
  fr' : ∀ b, F' b → F b ∨ w.heap.size ≤ b ∨ Lv μ H b
  lv : ∀ b, Lv μ' H' b → w.heap.size ≤ b ∨ Lv μ H b
theorem Fr.refl (w μ F H) : Fr w μ F H w μ F H := ⟨rfl, rfl, rfl, Nat.le_refl _, fun _ _ _ => rfl, fun _ _ h => h, fun _ h => h, fun _ h => .inl h, fun _ h => .inr h⟩
theorem Fr.trans {w μ F H w1 μ1 F1 H1 w2 μ2 F2 H2} (a : Fr w μ F H w1 μ1 F1 H1) (b : Fr w1 μ1 F1 H1 w2 μ2 F2 H2) : Fr w μ F H w2 μ2 F2 H2 where
  os := b.os.trans a.os
  tape := b.tape.trans a.tape
  output := b.output.trans a.output
  size := Nat.le_trans a.size b.size
  keep := fun i hi hl => (b.keep i (Nat.lt_of_lt_of_le hi a.size) (fun h => (a.lv i h).elim (fun h => by omega) hl)).trans (a.keep i hi hl)
  mu := fun r l h => b.mu r l (a.mu r l h)
  fr := fun i h => b.fr i (a.fr i h)
  fr' := fun i h => (b.fr' i h).elim (fun h => a.fr' i h) (fun h => h.elim (fun h => .inr (.inl (Nat.le_trans a.size h))) (fun h => .inr (a.lv i h)))
  lv := fun i h => (b.lv i h).elim (fun h => .inl (Nat.le_trans a.size h)) (fun h => a.lv i h)
/-- The package-level variables whose content is known. -/
structure GOK (cx : Cx) (w : World) (F : Nat → Prop) : Prop where
  t : ∀ g cs, cx.glob g = some cs → RepF w F (.fptr cs.length 1 (fun _ => cs) 0 0) (.pointer (some ⟨g, 0, none⟩))
  i : ∃ W0, cx.laid W0 ∧ ∀ g, g ∈ cx.keep → F g ∧ w.heap[g]? = W0.heap[g]?
/-- What a call does, be it entered, answered at once, or a row of the model. -/
def CallsX (P : Program) (f : FuncId) (vs : List Value) (w : World) (Q : Ending → World → Prop) : Prop :=
  match (callFunc f ⟨vs⟩).run P w with
  | .ok (.enter g a) w' => Calls P g a w' Q
  | .ok (.value v) w' => Q (.returned v) w'
  | .ok (.row row args) w' => Rows P row args w' fun v w'' => Q (.returned v) w''
  | .halt (.panic v) w' => Q (.panicked [{ v, recovered := false }]) w'
  | _ => False
inductive EndR (w : World) (μ : Id → Option Loc) (F : Nat → Prop) : Out → Ending → Prop
  | ret {av v} : Rep w μ F av v → EndR w μ F (.ret av) (.returned v)
  | pan {av v} : Rep w μ F av v → EndR w μ F (.pan av) (.panicked [{ v, recovered := false }])
def HSpec (cx : Cx) (f : FuncId) (args : List AV) (H : HH) (Post : Out → HH → Prop) : Prop :=
  ∀ w μ F vs, HRep w μ F H → GOK cx w F → All2 (Rep w μ F) args vs →
    CallsX cx.P f vs w fun e w' => ∃ o H' μ' F', Post o H' ∧ EndR w' μ' F' o e ∧ HRep w' μ' F' H' ∧ GOK cx w' F' ∧ Fr w μ F H w' μ' F' H'
inductive EndF (w : World) (F : Nat → Prop) : Out → Ending → Prop
  | ret {av v} : RepF w F av v → EndF w F (.ret av) (.returned v)
  | pan {av v} : RepF w F av v → EndF w F (.pan av) (.panicked [{ v, recovered := false }])
structure FrF (w : World) (F : Nat → Prop) (w' : World) (F' : Nat → Prop) : Prop where
  os : w'.os = w.os
  tape : w'.tape = w.tape
  output : w'.output = w.output
  size : w.heap.size ≤ w'.heap.size
  keep : ∀ b, b < w.heap.size → w'.heap[b]? = w.heap[b]?
  fr' : ∀ b, F' b → F b ∨ w.heap.size ≤ b
  lt : ∀ b, F' b → b < w'.heap.size
/-- A function that only computes: it reads what it is handed, and hands back memory that nobody writes. -/
def PSpec (cx : Cx) (f : FuncId) (args : List AV) (o : Out) : Prop :=
  ∀ w F vs, (∀ b, F b → b < w.heap.size) → GOK cx w F → All2 (RepF w F) args vs →
    CallsX cx.P f vs w fun e w' => ∃ F', EndF w' F' o e ∧ FrF w F w' F'
/-- In heap H whatever is an av is a bv, as memory that nobody writes. -/
def Ent (H : HH) (av bv : AV) : Prop := ∀ w μ F v, HRep w μ F H → Rep w μ F av v → RepF w (fun b => F b ∨ Lv μ H b) bv v
/-- No memory in it. -/
def noMem : AV → Bool
  | .lit _ => true
  | .top => true
  | .ifc _ v => noMem v
  | .tup l => noMemL l
  | .agg l => noMemL l
  | _ => false
where noMemL : List AV → Bool
  | [] => true
  | v :: l => noMem v && noMemL l
def noMemO : Out → Bool | .ret v => noMem v | .pan v => noMem v
def EntL (H : HH) : List AV → List AV → Prop
  | [], [] => True
  | a :: l, b :: m => Ent H a b ∧ EntL H l m
  | _, _ => False
/-- Whatever is an av is a bv, which names no row. -/
def EntS (av bv : AV) : Prop := ∀ w μ F v, Rep w μ F av v → RepF w F bv v
def EntSL : List AV → List AV → Prop
  | [], [] => True
  | a :: l, b :: m => EntS a b ∧ EntSL l m
  | _, _ => False
/-- A call of a function that only computes. -/
def PCall (cx : Cx) (f : FuncId) (args : List AV) (H : HH) (o : Out) : Prop :=
  ∃ args0, PSpec cx f args0 o ∧ (EntSL args args0 ∨ (EntL H args args0 ∧ noMemO o = true))
end Go.Eng
/- Lemmas on what abstract values say of worlds: worlds that grow, rows that are laid and written. -/
namespace Go.Eng
theorem ideq_iff (p q : Id) : ideq p q = true ↔ p = q := by
  obtain ⟨a, b, c⟩ := p; obtain ⟨x, y, z⟩ := q
  simp only [ideq]
  constructor
  · intro h
    split at h
    · rename_i h1
      split at h
      · rename_i h2
        have := Nat.eq_of_beq_eq_true h1; have := Nat.eq_of_beq_eq_true h2; have := Nat.eq_of_beq_eq_true h
        simp_all
      · cases h
    · cases h
  · rintro h
    cases h
    simp [Nat.beq_refl]
theorem ideq_self (p : Id) : ideq p p = true := (ideq_iff p p).2 rfl
theorem ideq_ne {p q : Id} (h : p ≠ q) : ideq p q = false := by
  cases hh : ideq p q
  · rfl
  · exact absurd ((ideq_iff _ _).1 hh) h
theorem HH.put_same (H : HH) (k : Id) (v : Row) : H.put k v k = some v := by simp [HH.put, ideq_self]
theorem HH.put_ne (H : HH) {k n : Id} (v : Row) (h : n ≠ k) : H.put k v n = H n := by simp [HH.put, ideq_ne h]
theorem TT.put_same (T : TT) (k : Nat) (v : AV) : T.put k v k = some v := by simp [TT.put, Nat.beq_refl]
theorem TT.put_ne (T : TT) {k n : Nat} (v : AV) (h : n ≠ k) : T.put k v n = T n := by
  have : Nat.beq n k = false := by
    cases hh : Nat.beq n k
    · rfl
    · exact absurd (Nat.eq_of_beq_eq_true hh) h
  simp [TT.put, this]
theorem TT.del_same (T : TT) (k : Nat) : T.del k k = none := by simp [TT.del, Nat.beq_refl]
theorem TT.del_ne (T : TT) {k n : Nat} (h : n ≠ k) : T.del k n = T n := by
  have : Nat.beq n k = false := by
    cases hh : Nat.beq n k
    · rfl
    · exact absurd (Nat.eq_of_beq_eq_true hh) h
  simp [TT.del, this]
/-! ### All2 -/
theorem All2.length {α β : Type} {Q : α → β → Prop} {l : List α} {m : List β} (h : All2 Q l m) : l.length = m.length := by
  induction h <;> simp_all
theorem All2.get {α β : Type} {Q : α → β → Prop} {l : List α} {m : List β} (h : All2 Q l m) : ∀ i (hi : i < l.length) (hj : i < m.length), Q l[i] m[i] := by
  induction h with
  | nil => intro i hi; simp at hi
  | cons hq _ ih =>
    intro i hi hj
    cases i with
    | zero => exact hq
    | succ i => exact ih i (by simpa using hi) (by simpa using hj)
theorem All2.of_get {α β : Type} {Q : α → β → Prop} : ∀ {l : List α} {m : List β}, l.length = m.length → (∀ i (hi : i < l.length) (hj : i < m.length), Q l[i] m[i]) → All2 Q l m
  | [], [], _, _ => .nil
  | [], _ :: _, h, _ => by simp at h
  | _ :: _, [], h, _ => by simp at h
  | a :: l, b :: m, h, hq => .cons (hq 0 (by simp) (by simp)) (All2.of_get (by simpa using h) fun i hi hj => hq (i + 1) (by simp; omega) (by simp; omega))
theorem All2.mono {α β : Type} {Q Q' : α → β → Prop} {l : List α} {m : List β} (h : All2 Q l m) (f : ∀ a b, Q a b → Q' a b) : All2 Q' l m := by
  induction h with
  | nil => exact .nil
  | cons hq _ ih => exact .cons (f _ _ hq) ih
/-! ### Worlds that grow -/
theorem cell?_block {w w' : World} {b : Nat} (h : w'.heap[b]? = w.heap[b]?) (o : Nat) : w'.cell? ⟨b, o, none⟩ = w.cell? ⟨b, o, none⟩ := by simp [World.cell?, h]
theorem RepF.mono {w w' : World} {F F' : Nat → Prop} (hk : ∀ b, F b → w'.heap[b]? = w.heap[b]?) (hF : ∀ b, F b → F' b) {av v} (h : RepF w F av v) : RepF w' F' av v := by
  induction h with
  | lit h => exact .lit h
  | top h => exact .top h
  | fsE h => exact .fsE h
  | fs vs hn hb hc hk' hr hl hv _ ih => exact .fs vs hn (hF _ hb) hc hk' hr hl (fun i j hi hj => by rw [cell?_block (hk _ hb)]; exact hv i j hi hj) ih
  | fp vs hi hb hl hv _ ih => exact .fp vs hi (hF _ hb) hl (fun i j hi hj => by rw [cell?_block (hk _ hb)]; exact hv i j hi hj) ih
  | clo h1 h2 _ _ ih1 ih2 => exact .clo h1 h2 ih1 ih2
  | ifc _ ih => exact .ifc ih
  | agg h _ ih => exact .agg h ih
  | tup h _ ih => exact .tup h ih
  | lz _ ih => exact .lz ih
theorem Rep.mono {w w' : World} {μ μ' : Id → Option Loc} {F F' : Nat → Prop} (hk : ∀ b, F b → w'.heap[b]? = w.heap[b]?) (hF : ∀ b, F b → F' b) (hm : ∀ r l, μ r = some l → μ' r = some l) {av v} (h : Rep w μ F av v) : Rep w' μ' F' av v := by
  induction h with
  | frz h => exact .frz (h.mono hk hF)
  | row0 h1 h2 h3 => exact .row0 (hm _ _ h1) h2 h3
  | row h1 h2 h3 h4 h5 h6 h7 => exact .row (hm _ _ h1) h2 h3 h4 h5 h6 h7
  | ptr h1 h2 => exact .ptr (hm _ _ h1) h2
  | clo h1 h2 _ _ ih1 ih2 => exact .clo h1 h2 ih1 ih2
  | ifc _ ih => exact .ifc ih
  | agg h _ ih => exact .agg h ih
  | tup h _ ih => exact .tup h ih
  | mref h1 h2 => exact .mref (hm _ _ h1) h2
theorem CellsRep.mono {w w' : World} {μ μ' : Id → Option Loc} {F F' : Nat → Prop} {l : Loc} {sz bs : Nat} {es : List (List AV)} {b : Nat} (hb : w'.heap[b]? = w.heap[b]?) (hk : ∀ b, F b → w'.heap[b]? = w.heap[b]?) (hF : ∀ b, F b → F' b)
    (hm : ∀ r l, μ r = some l → μ' r = some l) (h : CellsRep w μ F l sz bs es b) : CellsRep w' μ' F' l sz bs es b := by
  obtain ⟨c, e, lo, hi, h1, h2, h3, h4⟩ := h.h
  refine ⟨c, e, lo, hi, hb.trans h1, h2, h3, fun i hi => ⟨(h4 i hi).1, fun j hj => ?_⟩⟩
  obtain ⟨v, a1, a2, a3⟩ := (h4 i hi).2 j hj
  exact ⟨v, a1, a2, a3.mono hk hF hm⟩
theorem RowRep.mono {w w' : World} {μ μ' : Id → Option Loc} {F F' : Nat → Prop} {l : Loc} {row : Row} (hb : row.live = true → ∀ b, l.b = some b → w'.heap[b]? = w.heap[b]?) (hk : ∀ b, F b → w'.heap[b]? = w.heap[b]?) (hF : ∀ b, F b → F' b)
    (hm : ∀ r l, μ r = some l → μ' r = some l) (h : RowRep w μ F l row) : RowRep w' μ' F' l row := by
  cases row with
  | cells sz bs es =>
    obtain ⟨h1, h2, h3, h4, h5⟩ := h
    refine ⟨h1, h2, h3, h4, ?_⟩
    cases hlb : l.b with
    | none => rw [hlb] at h5; exact h5
    | some b => rw [hlb] at h5; exact h5.mono (hb rfl b hlb) hk hF hm
  | map kv =>
    obtain ⟨b, es, ck, h1, h2, h3, h4, h5⟩ := h
    refine ⟨b, es, ck, h1, (hb rfl b h1).trans h2, h3, fun i hi hi' => ?_, h5⟩
    obtain ⟨a1, a2, a3⟩ := h4 i hi hi'
    exact ⟨a1.mono hk hF hm, a2.mono hk hF hm, a3⟩
  | iter s p =>
    obtain ⟨b, h1, h2, h3⟩ := h
    exact ⟨b, h1, h2, (hb rfl b h1).trans h3⟩
  | dead => trivial
theorem GOK.mono {cx : Cx} {w w' : World} {F F' : Nat → Prop} (hk : ∀ b, F b → w'.heap[b]? = w.heap[b]?) (hF : ∀ b, F b → F' b) (h : GOK cx w F) : GOK cx w' F' := ⟨fun g cs hg => (h.t g cs hg).mono hk hF, let ⟨W0, h1, h2⟩ := h.i; ⟨W0, h1, fun g hg => ⟨hF g (h2 g hg).1, (hk g (h2 g hg).1).trans (h2 g hg).2⟩⟩⟩
theorem HRep.row_lt {w : World} {μ : Id → Option Loc} {F : Nat → Prop} {H : HH} (h : HRep w μ F H) {b : Nat} (hl : Lv μ H b) : b < w.heap.size := by
  obtain ⟨r, row, l, h1, h2, h3, h4⟩ := hl
  obtain ⟨l', hl', hr⟩ := h.rows r row h1
  obtain rfl : l' = l := Option.some.inj (hl'.symm.trans h3)
  cases row with
  | cells sz bs es =>
    obtain ⟨_, _, _, _, h5⟩ := hr
    rw [h4] at h5
    obtain ⟨c, e, lo, hi, h6, _⟩ := h5.h
    exact (Array.getElem?_eq_some_iff.1 h6).1
  | map kv =>
    obtain ⟨b', es, ck, a1, a2, _⟩ := hr
    rw [h4] at a1; cases a1
    exact (Array.getElem?_eq_some_iff.1 a2).1
  | iter s p =>
    obtain ⟨b', a1, _, a2⟩ := hr
    rw [h4] at a1; cases a1
    exact (Array.getElem?_eq_some_iff.1 a2).1
  | dead => cases h2
/-- A world in which no block of F and of the live rows has turned: all stands. -/
theorem HRep.same {w w' : World} {μ : Id → Option Loc} {F : Nat → Prop} {H : HH} (h : HRep w μ F H) (hs : w.heap.size ≤ w'.heap.size) (hk : ∀ b, b < w.heap.size → w'.heap[b]? = w.heap[b]?) : HRep w' μ F H where
  rows := fun r row hr => by
    obtain ⟨l, hl, hrow⟩ := h.rows r row hr
    exact ⟨l, hl, hrow.mono (fun hlv b hb => hk b (h.row_lt ⟨r, row, l, hr, hlv, hl, hb⟩)) (fun b hb => hk b (h.lt b hb)) (fun _ h => h) (fun _ _ h => h)⟩
  dom := h.dom
  inj := h.inj
  disj := h.disj
  lt := fun b hb => Nat.lt_of_lt_of_le (h.lt b hb) hs
def mput (μ : Id → Option Loc) (r : Id) (l : Loc) : Id → Option Loc := fun n => if n = r then some l else μ n
theorem mput_same (μ : Id → Option Loc) (r : Id) (l : Loc) : mput μ r l r = some l := by simp [mput]
theorem mput_ne (μ : Id → Option Loc) {r n : Id} (l : Loc) (h : n ≠ r) : mput μ r l n = μ n := by simp [mput, h]
theorem mput_keep {μ : Id → Option Loc} {r : Id} (l : Loc) (h : μ r = none) : ∀ n k, μ n = some k → mput μ r l n = some k := by
  intro n k hk
  rw [mput_ne _ _ (fun e => by rw [e, h] at hk; cases hk)]; exact hk
theorem heap_push_old (w : World) (o : Obj) {b : Nat} (h : b < w.heap.size) : (w.heap.push o)[b]? = w.heap[b]? := by
  rw [Array.getElem?_push, if_neg (by omega)]
theorem heap_push_new (w : World) (o : Obj) : (w.heap.push o)[w.heap.size]? = some o := by simp
/-- A row's new content in a block that is new. -/
theorem HRep.lay {w w' : World} {μ : Id → Option Loc} {F : Nat → Prop} {H : HH} {id : Id} {l : Loc} {row : Row} (h : HRep w μ F H) (hid : H id = none)
    (hs : w.heap.size < w'.heap.size) (hk : ∀ b, b < w.heap.size → w'.heap[b]? = w.heap[b]?) (hl : l.b = some w.heap.size)
    (hrow : RowRep w' (mput μ id l) F l row) : HRep w' (mput μ id l) F (H.put id row) := by
  have hμ := h.dom id hid
  have keep := mput_keep (μ := μ) l hμ
  refine ⟨fun r row' hr => ?_, fun r hr => ?_, ?_, ?_, fun b hb => Nat.lt_trans (h.lt b hb) hs⟩
  · by_cases e : r = id
    · subst e
      rw [HH.put_same] at hr; cases hr
      exact ⟨l, mput_same _ _ _, hrow⟩
    · rw [HH.put_ne _ _ e] at hr
      obtain ⟨k, hk', hr'⟩ := h.rows r row' hr
      exact ⟨k, keep _ _ hk', hr'.mono (fun hlv b hb => hk b (h.row_lt ⟨r, row', k, hr, hlv, hk', hb⟩)) (fun b hb => hk b (h.lt b hb)) (fun _ h => h) keep⟩
  · by_cases e : r = id
    · subst e; rw [HH.put_same] at hr; cases hr
    · rw [HH.put_ne _ _ e] at hr; rw [mput_ne _ _ e]; exact h.dom r hr
  · intro r r' row1 row2 l1 l2 b hr hv hr' hv' hm hm' hb hb'
    by_cases e : r = id <;> by_cases e' : r' = id
    · rw [e, e']
    · subst e
      rw [mput_same] at hm; cases hm
      rw [HH.put_ne _ _ e'] at hr'; rw [mput_ne _ _ e'] at hm'
      have := h.row_lt ⟨r', row2, l2, hr', hv', hm', hb'⟩
      rw [hl] at hb; cases hb; omega
    · subst e'
      rw [mput_same] at hm'; cases hm'
      rw [HH.put_ne _ _ e] at hr; rw [mput_ne _ _ e] at hm
      have := h.row_lt ⟨r, row1, l1, hr, hv, hm, hb⟩
      rw [hl] at hb'; cases hb'; omega
    · rw [HH.put_ne _ _ e] at hr; rw [mput_ne _ _ e] at hm
      rw [HH.put_ne _ _ e'] at hr'; rw [mput_ne _ _ e'] at hm'
      exact h.inj r r' row1 row2 l1 l2 b hr hv hr' hv' hm hm' hb hb'
  · intro r row1 l1 b hr hv hm hb hf
    by_cases e : r = id
    · subst e
      rw [mput_same] at hm; cases hm
      have := h.lt b hf
      rw [hl] at hb; cases hb; omega
    · rw [HH.put_ne _ _ e] at hr; rw [mput_ne _ _ e] at hm
      exact h.disj r row1 l1 b hr hv hm hb hf
theorem Fr.lay {w w' : World} {μ : Id → Option Loc} {F : Nat → Prop} {H : HH} {id : Id} {l : Loc} {row : Row} (h : HRep w μ F H) (hid : H id = none)
    (h1 : w'.os = w.os) (h2 : w'.tape = w.tape) (h3 : w'.output = w.output)
    (hs : w.heap.size < w'.heap.size) (hk : ∀ b, b < w.heap.size → w'.heap[b]? = w.heap[b]?) (hl : l.b = some w.heap.size) :
    Fr w μ F H w' (mput μ id l) F (H.put id row) where
  os := h1
  tape := h2
  output := h3
  size := Nat.le_of_lt hs
  keep := fun b hb _ => hk b hb
  mu := mput_keep l (h.dom id hid)
  fr := fun _ h => h
  fr' := fun _ h => .inl h
  lv := fun b hb => by
    obtain ⟨r, row', l', hr, hv, hm, hb'⟩ := hb
    by_cases e : r = id
    · subst e
      rw [mput_same] at hm; cases hm
      rw [hl] at hb'; cases hb'; exact .inl (Nat.le_refl _)
    · rw [HH.put_ne _ _ e] at hr; rw [mput_ne _ _ e] at hm
      exact .inr ⟨r, row', l', hr, hv, hm, hb'⟩
/-- A live row is written: its own block alone turns. -/
theorem HRep.write {w w' : World} {μ : Id → Option Loc} {F : Nat → Prop} {H : HH} {id : Id} {l : Loc} {row old : Row} (h : HRep w μ F H) (hid : H id = some old) (hlv : old.live = true) (hμ : μ id = some l)
    (hs : w'.heap.size = w.heap.size) (hk : ∀ b, some b ≠ l.b → w'.heap[b]? = w.heap[b]?)
    (hrow : RowRep w' μ F l row) : HRep w' μ F (H.put id row) := by
  have hne : ∀ r row' k, r ≠ id → H r = some row' → row'.live = true → μ r = some k → ∀ b, k.b = some b → some b ≠ l.b := by
    intro r row' k e hr hv hm b hb hlb
    exact e (h.inj r id row' old k l b hr hv hid hlv hm hμ hb hlb.symm)
  have hF : ∀ b, F b → some b ≠ l.b := fun b hb hlb => h.disj id old l b hid hlv hμ hlb.symm hb
  refine ⟨fun r row' hr => ?_, fun r hr => ?_, ?_, ?_, fun b hb => hs ▸ h.lt b hb⟩
  · by_cases e : r = id
    · subst e
      rw [HH.put_same] at hr; cases hr
      exact ⟨l, hμ, hrow⟩
    · rw [HH.put_ne _ _ e] at hr
      obtain ⟨k, hk', hr'⟩ := h.rows r row' hr
      exact ⟨k, hk', hr'.mono (fun hv b hb => hk b (hne r row' k e hr hv hk' b hb)) (fun b hb => hk b (hF b hb)) (fun _ h => h) (fun _ _ h => h)⟩
  · by_cases e : r = id
    · subst e; rw [HH.put_same] at hr; cases hr
    · rw [HH.put_ne _ _ e] at hr; exact h.dom r hr
  · have back : ∀ r row1, H.put id row r = some row1 → row1.live = true → ∃ row2, H r = some row2 ∧ row2.live = true := by
      intro r row1 hr hv
      by_cases e : r = id
      · subst e; exact ⟨old, hid, hlv⟩
      · rw [HH.put_ne _ _ e] at hr; exact ⟨row1, hr, hv⟩
    intro r r' row1 row2 l1 l2 b hr hv hr' hv' hm hm' hb hb'
    obtain ⟨a, ha, hav⟩ := back r row1 hr hv
    obtain ⟨c, hc, hcv⟩ := back r' row2 hr' hv'
    exact h.inj r r' a c l1 l2 b ha hav hc hcv hm hm' hb hb'
  · intro r row1 l1 b hr hv hm hb hf
    by_cases e : r = id
    · subst e; exact h.disj r old l1 b hid hlv hm hb hf
    · rw [HH.put_ne _ _ e] at hr; exact h.disj r row1 l1 b hr hv hm hb hf
theorem Fr.write {w w' : World} {μ : Id → Option Loc} {F : Nat → Prop} {H : HH} {id : Id} {l : Loc} {row old : Row} (hid : H id = some old) (hlv : old.live = true) (hμ : μ id = some l)
    (h1 : w'.os = w.os) (h2 : w'.tape = w.tape) (h3 : w'.output = w.output)
    (hs : w'.heap.size = w.heap.size) (hk : ∀ b, some b ≠ l.b → w'.heap[b]? = w.heap[b]?) : Fr w μ F H w' μ F (H.put id row) where
  os := h1
  tape := h2
  output := h3
  size := Nat.le_of_eq hs.symm
  keep := fun b hb hn => hk b (fun e => hn ⟨id, old, l, hid, hlv, hμ, e.symm⟩)
  mu := fun _ _ h => h
  fr := fun _ h => h
  fr' := fun _ h => .inl h
  lv := fun b hb => by
    obtain ⟨r, row', l', hr, hv, hm, hb'⟩ := hb
    by_cases e : r = id
    · subst e; exact .inr ⟨r, old, l', hid, hlv, hm, hb'⟩
    · rw [HH.put_ne _ _ e] at hr
      exact .inr ⟨r, row', l', hr, hv, hm, hb'⟩
/-- A row that is done with. -/
theorem HRep.kill {w : World} {μ : Id → Option Loc} {F : Nat → Prop} {H : HH} {id : Id} {old : Row} (h : HRep w μ F H) (hid : H id = some old) : HRep w μ F (H.put id .dead) := by
  obtain ⟨l, hμ, _⟩ := h.rows id old hid
  refine ⟨fun r row' hr => ?_, fun r hr => ?_, ?_, ?_, h.lt⟩
  · by_cases e : r = id
    · subst e; rw [HH.put_same] at hr; cases hr; exact ⟨l, hμ, trivial⟩
    · rw [HH.put_ne _ _ e] at hr; exact h.rows r row' hr
  · by_cases e : r = id
    · subst e; rw [HH.put_same] at hr; cases hr
    · rw [HH.put_ne _ _ e] at hr; exact h.dom r hr
  · intro r r' row1 row2 l1 l2 b hr hv hr' hv' hm hm' hb hb'
    by_cases e : r = id
    · subst e; rw [HH.put_same] at hr; cases hr; cases hv
    · by_cases e' : r' = id
      · subst e'; rw [HH.put_same] at hr'; cases hr'; cases hv'
      · rw [HH.put_ne _ _ e] at hr; rw [HH.put_ne _ _ e'] at hr'
        exact h.inj r r' row1 row2 l1 l2 b hr hv hr' hv' hm hm' hb hb'
  · intro r row1 l1 b hr hv hm hb hf
    by_cases e : r = id
    · subst e; rw [HH.put_same] at hr; cases hr; cases hv
    · rw [HH.put_ne _ _ e] at hr; exact h.disj r row1 l1 b hr hv hm hb hf
theorem Lv.kill {μ : Id → Option Loc} {H : HH} {id : Id} {b : Nat} (h : Lv μ (H.put id .dead) b) : Lv μ H b := by
  obtain ⟨r, row, l, hr, hv, hm, hb⟩ := h
  by_cases e : r = id
  · subst e; rw [HH.put_same] at hr; cases hr; cases hv
  · rw [HH.put_ne _ _ e] at hr; exact ⟨r, row, l, hr, hv, hm, hb⟩
theorem Fr.kill (w : World) (μ : Id → Option Loc) (F : Nat → Prop) (H : HH) (id : Id) : Fr w μ F H w μ F (H.put id .dead) :=
  ⟨rfl, rfl, rfl, Nat.le_refl _, fun _ _ _ => rfl, fun _ _ h => h, fun _ h => h, fun _ h => .inl h, fun _ h => .inr h.kill⟩
theorem idfL_get : ∀ {l : List AV}, idfL l = true → ∀ i (h : i < l.length), idf l[i] = true
  | [], _, i, h => by simp at h
  | v :: l, hh, i, h => by
    simp only [idfL, idf.idfL, Bool.and_eq_true] at hh
    cases i with
    | zero => exact hh.1
    | succ i => exact idfL_get hh.2 i (by simpa using h)
theorem idf_frz {w : World} {μ : Id → Option Loc} {F : Nat → Prop} {a : AV} {v : Value} (h : Rep w μ F a v) : idf a = true → RepF w F a v := by
  induction h with
  | frz h => exact fun _ => h
  | row0 => intro h; cases h
  | row => intro h; cases h
  | ptr => intro h; cases h
  | mref => intro h; cases h
  | clo h1 h2 h3 h4 i3 i4 =>
    intro h
    simp only [idf, Bool.and_eq_true] at h
    exact .clo h1 h2 (fun i hi hi' => i3 i hi hi' (idfL_get h.1 i hi)) (fun i hi hi' => i4 i hi hi' (idfL_get h.2 i hi))
  | ifc _ ih => intro h; exact .ifc (ih h)
  | agg h1 h2 ih => intro h; exact .agg h1 fun i hi hi' => ih i hi hi' (idfL_get h i hi)
  | tup h1 h2 ih => intro h; exact .tup h1 fun i hi hi' => ih i hi hi' (idfL_get h i hi)
end Go.Eng

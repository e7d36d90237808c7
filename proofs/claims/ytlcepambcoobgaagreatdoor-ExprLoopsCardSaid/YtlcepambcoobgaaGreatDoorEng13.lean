/- Eng13: an engine for the program's code, and walks of its functions (M1 M2 M3 M4 M5). -/
import Derived.Test.YtlcepambcoobgaaGreatDoorEng00
import Derived.Lib.ValidU
import Derived.Lib.Bytealg
import Derived.Lib.ItoaNum
import Derived.Lib.ItoaLen
import Derived.Lib.SplitLaws
import Derived.Lib.Strings
/- What package value computes, on trees. -/
namespace Go.Eng
def memB (n : ByteArray) : List ByteArray → Bool
  | [] => false
  | m :: l => decide (n = m) || memB n l
mutual
/-- How many bytes a value has. -/
def GV.sz : GV → Nat
  | .mk k _ t l d => match decide (k = 3) || decide (k = 10) with
    | true => 8
    | false => match decide (k = 4) || decide (k = 7) with
      | true => 5 + t.size
      | false => match decide (k = 8) with
        | true => 12
        | false => match decide (k = 9) with
          | true => 1
          | false => match decide (k = 5) with
            | true => 5 + szD d
            | false => match decide (k = 6) with
              | true => 5 + szL 0 l
              | false => 0
def szL : Nat → List GV → Nat
  | _, [] => 0
  | i, g :: l => 2 + (Lib.itoa i).length + g.sz + szL (i + 1) l
def szD : List (ByteArray × GV) → Nat
  | [] => 0
  | (n, g) :: l => 2 + n.size + g.sz + szD l
end
def validM (s : ByteArray) : Bool := Lib.validD s.data.toList
def GV.noList (g : GV) : Bool := g.list.isEmpty
def wrongM : GV → Bool
  | .mk k n t l d => match decide (k = 1) || decide (k = 2) || decide (k = 11) with
    | true => !(decide (n = 0)) || !(decide (t = ⟨#[]⟩)) || !d.isEmpty || !l.isEmpty
    | false => match decide (k = 3) || decide (k = 10) with
      | true => !(decide (t = ⟨#[]⟩)) || !d.isEmpty || !l.isEmpty
      | false => match decide (k = 9) with
        | true => (!(decide (n = 0)) && !(decide (n = 1))) || !(decide (t = ⟨#[]⟩)) || !d.isEmpty || !l.isEmpty
        | false => match decide (k = 4) with
          | true => !validM t || !(decide (n = 0)) || !d.isEmpty || !l.isEmpty
          | false => match decide (k = 7) with
            | true => !(decide (n = 0)) || !d.isEmpty || !l.isEmpty
            | false => match decide (k = 8) with
              | true => !(decide (t.size = 12)) || !(decide (n = 0)) || !d.isEmpty || !l.isEmpty
              | false => match decide (k = 5) with
                | true => !(decide (n = 0)) || !(decide (t = ⟨#[]⟩)) || !l.isEmpty
                | false => match decide (k = 6) with
                  | true => !(decide (n = 0)) || !(decide (t = ⟨#[]⟩)) || !d.isEmpty
                  | false => true
def nameM (s : ByteArray) : Bool := !(decide (s = ⟨#[]⟩)) && decide (s.size ≤ 100) && validM s && decide (Lib.indexByte s.data.toList 0 < 0)
/- What is wrong first. -/
mutual
def checkM : Nat → GV → Int
  | deep, .mk k n t l d =>
    match (decide (k = 5) || decide (k = 6)) && decide (20 < deep) with
    | true => 12
    | false => match wrongM (.mk k n t l d) with
      | true => 10
      | false => match decide (checkL (deep + 1) l = 0) with
        | true => checkD (deep + 1) [] d
        | false => checkL (deep + 1) l
def checkL : Nat → List GV → Int
  | _, [] => 0
  | deep, g :: l => match decide (checkM deep g = 0) with
    | true => checkL deep l
    | false => checkM deep g
def checkD : Nat → List ByteArray → List (ByteArray × GV) → Int
  | _, _, [] => 0
  | deep, met, (n, g) :: l => match memB n met || !nameM n with
    | true => 11
    | false => match decide (checkM deep g = 0) with
      | true => checkD deep (n :: met) l
      | false => checkM deep g
end
def sizeM (g : GV) : Int := if g.sz ≤ 65536 then g.sz else 65537
def rightM (g : GV) : Int := if g.sz ≤ 65536 then checkM 1 g else 3
theorem szD_app : ∀ (l m : List (ByteArray × GV)), szD (l ++ m) = szD l + szD m
  | [], m => by simp [szD]
  | (n, g) :: l, m => by simp only [List.cons_append, szD, szD_app l m]; omega
theorem szL_app : ∀ (l m : List GV) (i : Nat), szL i (l ++ m) = szL i l + szL (i + l.length) m
  | [], m, i => by simp [szL]
  | g :: l, m, i => by simp only [List.cons_append, szL, szL_app l m, List.length_cons]; rw [show i + (l.length + 1) = i + 1 + l.length by omega]; omega
theorem take_succ' {α : Type} [Inhabited α] {l : List α} {i : Nat} (h : i < l.length) : l.take (i + 1) = l.take i ++ [l.getD i default] := by
  rw [← List.take_append_getElem h]
  simp [h]
theorem szD_succ {d : List (ByteArray × GV)} {i : Nat} (h : i < d.length) : szD (d.take (i + 1)) = szD (d.take i) + (2 + (d.getD i default).1.size + (d.getD i default).2.sz) := by
  rw [take_succ' h, szD_app]; rfl
theorem szL_succ {l : List GV} {i : Nat} (h : i < l.length) : szL 0 (l.take (i + 1)) = szL 0 (l.take i) + (2 + (Lib.itoa i).length + (l.getD i default).sz) := by
  rw [take_succ' h, szL_app, List.length_take, Nat.min_eq_left (by omega)]; simp [szL]
theorem szD_le (d : List (ByteArray × GV)) (i : Nat) : szD (d.take i) ≤ szD d := by
  conv => rhs; rw [← List.take_append_drop i d, szD_app]
  omega
theorem szL_le (l : List GV) (i : Nat) : szL 0 (l.take i) ≤ szL 0 l := by
  conv => rhs; rw [← List.take_append_drop i l, szL_app]
  omega
end Go.Eng
/- What packages path and expr compute, on trees. -/
namespace Go.Eng
def gZero : GV := .mk 0 0 ⟨#[]⟩ [] []
def gNull : GV := .mk 2 0 ⟨#[]⟩ [] []
def gInt (n : Int) : GV := .mk 3 n ⟨#[]⟩ [] []
def gText (s : ByteArray) : GV := .mk 4 0 s [] []
def gBool (b : Bool) : GV := match b with | true => .mk 9 1 ⟨#[]⟩ [] [] | false => .mk 9 0 ⟨#[]⟩ [] []
def gDate (n : Int) : GV := .mk 10 n ⟨#[]⟩ [] []
def gFields (l : List (ByteArray × GV)) : GV := .mk 5 0 ⟨#[]⟩ [] l
def gDoc (n : ByteArray) (v : GV) : GV := .mk 5 0 ⟨#[]⟩ [] [(n, v)]
def gList (l : List GV) : GV := .mk 6 0 ⟨#[]⟩ l []
def gCall (n : ByteArray) (l : List GV) : GV := gDoc n (gList l)
/-- A document's field. -/
def findF (n : ByteArray) : List (ByteArray × GV) → Option GV
  | [] => none
  | (m, g) :: d => match decide (m = n) with | true => some g | false => findF n d
def GV.get (g : GV) (n : ByteArray) : Option GV := match decide (g.kind = 5) with | true => findF n g.doc | false => none
/-! ### path -/
def partM (s : ByteArray) : Bool := !(decide (s = ⟨#[]⟩)) && decide (s.size ≤ 100) && !(decide ((s.data.getD 0 0).toNat = 36)) && validM s && decide (Lib.indexByte s.data.toList 0 < 0)
def splitM (s : ByteArray) : Option (List ByteArray) :=
  match decide (Lib.countByte s.data.toList 46 < 10) with
  | false => none
  | true => match (Lib.splitB ⟨#[46]⟩ 0 (Lib.countB s ⟨#[46]⟩) s).all partM with
    | true => some (Lib.splitB ⟨#[46]⟩ 0 (Lib.countB s ⟨#[46]⟩) s)
    | false => none
mutual
def pickM : List ByteArray → GV → GV
  | ps, .mk k n t l d => match decide (10 < ps.length) with
    | true => gZero
    | false => match ps with
      | [] => .mk k n t l d
      | p :: rest => match decide (k = 6) with
        | true => gList (pickL (p :: rest) l)
        | false => match decide (k = 5) with | true => pickF p rest d | false => gZero
def pickL : List ByteArray → List GV → List GV
  | _, [] => []
  | ps, x :: l => match (decide (x.kind = 5) || decide (x.kind = 6)) && !(decide ((pickM ps x).kind = 0)) with
    | true => pickM ps x :: pickL ps l
    | false => pickL ps l
def pickF : ByteArray → List ByteArray → List (ByteArray × GV) → GV
  | _, _, [] => gZero
  | p, rest, (n, g) :: d => match decide (n = p) with | true => pickM rest g | false => pickF p rest d
end
/-! ### Parsing -/
abbrev sRoot : ByteArray := ⟨#[82, 79, 79, 84]⟩
abbrev sInput : ByteArray := ⟨#[105, 110, 112, 117, 116]⟩
abbrev sIn : ByteArray := ⟨#[105, 110]⟩
abbrev sCond' : ByteArray := ⟨#[99, 111, 110, 100]⟩
abbrev sInitial : ByteArray := ⟨#[105, 110, 105, 116, 105, 97, 108]⟩
abbrev sAs : ByteArray := ⟨#[97, 115]⟩
abbrev sThis : ByteArray := ⟨#[116, 104, 105, 115]⟩
abbrev sValue : ByteArray := ⟨#[118, 97, 108, 117, 101]⟩
abbrev oAdd : ByteArray := ⟨#[36, 97, 100, 100]⟩
abbrev oMultiply : ByteArray := ⟨#[36, 109, 117, 108, 116, 105, 112, 108, 121]⟩
abbrev oMin : ByteArray := ⟨#[36, 109, 105, 110]⟩
abbrev oMax : ByteArray := ⟨#[36, 109, 97, 120]⟩
abbrev oConcat : ByteArray := ⟨#[36, 99, 111, 110, 99, 97, 116]⟩
abbrev oJoin : ByteArray := ⟨#[36, 106, 111, 105, 110]⟩
abbrev oAnd : ByteArray := ⟨#[36, 97, 110, 100]⟩
abbrev oOr : ByteArray := ⟨#[36, 111, 114]⟩
abbrev oMerge : ByteArray := ⟨#[36, 109, 101, 114, 103, 101]⟩
abbrev oPart : ByteArray := ⟨#[36, 112, 97, 114, 116]⟩
abbrev oSlice : ByteArray := ⟨#[36, 115, 108, 105, 99, 101]⟩
abbrev oCond : ByteArray := ⟨#[36, 99, 111, 110, 100]⟩
abbrev oSubtract : ByteArray := ⟨#[36, 115, 117, 98, 116, 114, 97, 99, 116]⟩
abbrev oDivide : ByteArray := ⟨#[36, 100, 105, 118, 105, 100, 101]⟩
abbrev oMod : ByteArray := ⟨#[36, 109, 111, 100]⟩
abbrev oFind : ByteArray := ⟨#[36, 102, 105, 110, 100]⟩
abbrev oSplit : ByteArray := ⟨#[36, 115, 112, 108, 105, 116]⟩
abbrev oAt : ByteArray := ⟨#[36, 97, 116]⟩
abbrev oRange : ByteArray := ⟨#[36, 114, 97, 110, 103, 101]⟩
abbrev oHas : ByteArray := ⟨#[36, 104, 97, 115]⟩
abbrev oEq : ByteArray := ⟨#[36, 101, 113]⟩
abbrev oNe : ByteArray := ⟨#[36, 110, 101]⟩
abbrev oGt : ByteArray := ⟨#[36, 103, 116]⟩
abbrev oGte : ByteArray := ⟨#[36, 103, 116, 101]⟩
abbrev oLt : ByteArray := ⟨#[36, 108, 116]⟩
abbrev oLte : ByteArray := ⟨#[36, 108, 116, 101]⟩
abbrev oCmp : ByteArray := ⟨#[36, 99, 109, 112]⟩
abbrev oIfNull : ByteArray := ⟨#[36, 105, 102, 78, 117, 108, 108]⟩
abbrev oAbs : ByteArray := ⟨#[36, 97, 98, 115]⟩
abbrev oLower : ByteArray := ⟨#[36, 108, 111, 119, 101, 114]⟩
abbrev oUpper : ByteArray := ⟨#[36, 117, 112, 112, 101, 114]⟩
abbrev oLength : ByteArray := ⟨#[36, 108, 101, 110, 103, 116, 104]⟩
abbrev oSize : ByteArray := ⟨#[36, 115, 105, 122, 101]⟩
abbrev oReverse : ByteArray := ⟨#[36, 114, 101, 118, 101, 114, 115, 101]⟩
abbrev oNot : ByteArray := ⟨#[36, 110, 111, 116]⟩
abbrev oType : ByteArray := ⟨#[36, 116, 121, 112, 101]⟩
abbrev oToInt : ByteArray := ⟨#[36, 116, 111, 73, 110, 116]⟩
abbrev oToText : ByteArray := ⟨#[36, 116, 111, 84, 101, 120, 116]⟩
abbrev oToBool : ByteArray := ⟨#[36, 116, 111, 66, 111, 111, 108]⟩
abbrev oToDate : ByteArray := ⟨#[36, 116, 111, 68, 97, 116, 101]⟩
abbrev oYear : ByteArray := ⟨#[36, 121, 101, 97, 114]⟩
abbrev oMonth : ByteArray := ⟨#[36, 109, 111, 110, 116, 104]⟩
abbrev oDay : ByteArray := ⟨#[36, 100, 97, 121]⟩
abbrev oHour : ByteArray := ⟨#[36, 104, 111, 117, 114]⟩
abbrev oMinute : ByteArray := ⟨#[36, 109, 105, 110, 117, 116, 101]⟩
abbrev oSecond : ByteArray := ⟨#[36, 115, 101, 99, 111, 110, 100]⟩
abbrev oMilli : ByteArray := ⟨#[36, 109, 105, 108, 108, 105]⟩
abbrev oWeekday : ByteArray := ⟨#[36, 119, 101, 101, 107, 100, 97, 121]⟩
abbrev oLiteral : ByteArray := ⟨#[36, 108, 105, 116, 101, 114, 97, 108]⟩
abbrev oMap : ByteArray := ⟨#[36, 109, 97, 112]⟩
abbrev oFilter : ByteArray := ⟨#[36, 102, 105, 108, 116, 101, 114]⟩
abbrev oReduce : ByteArray := ⟨#[36, 114, 101, 100, 117, 99, 101]⟩
/-- How many arguments an operator takes. -/
def arityM (op : ByteArray) : Option (Nat × Nat) :=
  match memB op [oAdd, oMultiply, oMin, oMax, oConcat, oJoin, oAnd, oOr, oMerge] with
  | true => some (1, 100)
  | false => match memB op [oPart, oSlice, oCond] with
    | true => some (3, 3)
    | false => match memB op [oSubtract, oDivide, oMod, oFind, oSplit, oAt, oRange, oHas, oEq, oNe, oGt, oGte, oLt, oLte, oCmp, oIfNull] with
      | true => some (2, 2)
      | false => match memB op [oAbs, oLower, oUpper, oLength, oSize, oReverse, oNot, oType, oToInt, oToText, oToBool, oToDate, oYear, oMonth, oDay, oHour, oMinute, oSecond, oMilli, oWeekday] with
        | true => some (1, 1)
        | false => none
end Go.Eng
/- What package expr computes, on trees: parsing, and work. 'unk': not told here. -/
namespace Go.Eng
inductive P3 (α : Type) where
  | unk
  | no
  | yes (a : α)
def P3.map {α β : Type} (f : α → β) : P3 α → P3 β | .unk => .unk | .no => .no | .yes a => .yes (f a)
def first0 (s : ByteArray) : Nat := (s.data.getD 0 0).toNat
/-- Does a text begin with a $; with two? -/
def dol1 (s : ByteArray) : Bool := Lib.hasPrefix s.data.toList [36]
def dol2 (s : ByteArray) : Bool := Lib.hasPrefix s.data.toList [36, 36]
mutual
/-- Texts not too long, no name empty: what is right is so. -/
def goodM : GV → Bool
  | .mk _ _ t l d => decide (t.size ≤ 65536) && goodL l && goodD d
def goodL : List GV → Bool
  | [] => true
  | g :: l => goodM g && goodL l
def goodD : List (ByteArray × GV) → Bool
  | [] => true
  | (n, g) :: d => decide (0 < n.size) && goodM g && goodD d
end
theorem goodL_get : ∀ {l : List GV} {i : Nat} (h : i < l.length), goodL l = true → goodM (l.getD i default) = true
  | g :: l, 0, _, h => by simp only [goodL, Bool.and_eq_true] at h; exact h.1
  | g :: l, i + 1, hi, h => by simp only [goodL, Bool.and_eq_true] at h; exact goodL_get (l := l) (Nat.lt_of_succ_lt_succ hi) h.2
theorem goodD_get : ∀ {l : List (ByteArray × GV)} {i : Nat} (h : i < l.length), goodD l = true → 0 < (l.getD i default).1.size ∧ goodM (l.getD i default).2 = true
  | (n, g) :: l, 0, _, h => by simp only [goodD, Bool.and_eq_true, decide_eq_true_eq] at h; exact h.1
  | (n, g) :: l, i + 1, hi, h => by simp only [goodD, Bool.and_eq_true] at h; exact goodD_get (l := l) (Nat.lt_of_succ_lt_succ hi) h.2
def allG (p : List ByteArray → GV → P3 Nd) : List ByteArray → List GV → P3 (List Nd)
  | _, [] => .yes []
  | names, g :: l => match p names g with
    | .unk => .unk
    | .no => .no
    | .yes a => (allG p names l).map (a :: ·)
def allF (p : List ByteArray → GV → P3 Nd) (names : List ByteArray) (l : List GV) : P3 (List Nd) := match decide (100 < l.length) with | true => .no | false => allG p names l
def docG (p : List ByteArray → GV → P3 Nd) : List ByteArray → List (ByteArray × GV) → P3 (List (ByteArray × Nd))
  | _, [] => .yes []
  | names, (m, g) :: l => match p names g with
    | .unk => .unk
    | .no => .no
    | .yes a => match decide (first0 m = 36) with
      | true => .no
      | false => (docG p names l).map ((m, a) :: ·)
def docF (p : List ByteArray → GV → P3 Nd) (names : List ByteArray) (l : List (ByteArray × GV)) : P3 (List (ByteArray × Nd)) := match decide (100 < l.length) with | true => .no | false => docG p names l
def loopF (p : List ByteArray → GV → P3 Nd) (names : List ByteArray) (op : ByteArray) (v : GV) : P3 Nd := match decide (v.kind = 5) && decide (v.doc.length = 3) with
    | false => .no
    | true => match v.get sInput, v.get (match decide (op = oFilter) with | true => sCond' | false => sIn) with
      | some over, some body => match p names over with
        | .unk => .unk
        | ov => match decide (op = oReduce) with
          | true => match v.get sInitial with
            | none => .no
            | some first => match p names first with
              | .unk => .unk
              | .no => .no
              | .yes fi => match p (names ++ [sThis, sValue]) body, ov with
                | .unk, _ => .unk
                | .yes b, .yes o => .yes (.loop op ⟨#[]⟩ o (some fi) b)
                | _, _ => .no
          | false => match v.get sAs with
            | none => .no
            | some as => match decide (as.kind = 4), splitM as.text with
              | true, some [q] => match decide (q = sRoot) with
                | true => .no
                | false => match p (names ++ [q]) body, ov with
                  | .unk, _ => .unk
                  | .yes b, .yes o => .yes (.loop op q o none b)
                  | _, _ => .no
              | _, _ => .no
      | _, _ => .no
/-- The arguments of a call: a list's elements, or one alone. -/
def argsOf (v : GV) : List GV := match v.kind == 6 with | true => v.list | false => [v]
def callF (p : List ByteArray → GV → P3 Nd) (names : List ByteArray) (op : ByteArray) (v : GV) : P3 Nd := match decide (op = oLiteral) with
    | true => .yes (.call op [.con v])
    | false => match decide (op = oMap) || decide (op = oFilter) || decide (op = oReduce) with
      | true => match decide (op = oFilter) || !(decide (names.length ≤ 1000)) with
        | true => .unk
        | false => loopF p names op v
      | false => match allF p names (argsOf v) with
        | .unk => .unk
        | .no => .no
        | .yes l => match arityM op with
          | none => .no
          | some (a, b) => match decide (l.length < a) || decide (b < l.length) with | true => .no | false => .yes (.call op l)
def parseF : Nat → List ByteArray → GV → P3 Nd
  | 0, _, _ => .unk
  | n + 1, names, g =>
    match (g.kind == 4) && dol2 g.text with
    | true => match splitM (g.text.extract 2 g.text.size) with
      | none => .no
      | some [] => .no
      | some (p :: ps) => match decide (p = sRoot) || memB p names with | true => .yes (.var p ps) | false => .no
    | false => match (g.kind == 4) && dol1 g.text with
      | true => match splitM (g.text.extract 1 g.text.size) with
        | none => .no
        | some ps => .yes (.fld ps)
      | false => match (g.kind == 6) with
        | true => (allF (parseF n) names g.list).map .lst
        | false => match (g.kind == 5) with
          | false => .yes (.lit g)
          | true => match g.doc with
            | [(m, v)] => match decide (first0 m = 36) with
              | true => callF (parseF n) names m v
              | false => (docF (parseF n) names [(m, v)]).map .docm
            | d => (docF (parseF n) names d).map .docm
/-! ### Work -/
inductive Rs (α : Type) where
  | unk
  | ok (a : α) (k : Int)
  | fail (e k : Int)
def Rs.bind {α β : Type} (x : Rs α) (f : α → Int → Rs β) : Rs β := match x with | .unk => .unk | .ok a k => f a k | .fail e k => .fail e k
def nothingM (g : GV) : Bool := decide (g.kind = 0) || decide (g.kind = 2)
def fullM (g : GV) : GV := match decide (g.kind = 0) with | true => .mk 2 g.int g.text g.list g.doc | false => g
def truthM (g : GV) : Bool := match nothingM g with
  | true => false
  | false => match decide (g.kind = 9) || decide (g.kind = 3) with | true => !(decide (g.int = 0)) | false => true
def withinM (g : GV) (k : Int) : Rs GV := match decide (65536 < g.sz) with | true => .fail 3 k | false => .ok g k
/-- The room behind an element that is put behind i others. -/
def pileM (i : Nat) (g : GV) (room : Int) : Int := room - (2 + (Lib.itoa i).length + sizeM g)
def MININT : Int := -9223372036854775808
def MAXINT : Int := 9223372036854775807
def inInt (n : Int) : Bool := decide (MININT ≤ n) && decide (n ≤ MAXINT)
def numM (n k : Int) : Rs GV := match inInt n with | true => .ok (gInt n) k | false => .fail 52 k
def lookS (n : ByteArray) : List (ByteArray × GV) → Option GV
  | [] => none
  | (m, g) :: s => match decide (m = n) with | true => some g | false => lookS n s
def cmpInt (a b : Int) : Int := match decide (a < b) with | true => -1 | false => match decide (b < a) with | true => 1 | false => 0
def cmpText (a b : ByteArray) : Int := match Op.bytesLess a.data.toList b.data.toList with | true => -1 | false => match decide (a = b) with | true => 0 | false => 1
mutual
def cmpM : GV → GV → Int
  | .mk k n t l d, .mk k' n' t' l' d' => match decide (k = k') with
    | false => cmpInt k k'
    | true => match decide (k = 3) || decide (k = 9) || decide (k = 10) with
      | true => cmpInt n n'
      | false => match decide (k = 4) || decide (k = 7) || decide (k = 8) with
        | true => cmpText t t'
        | false => match decide (k = 6) with
          | true => cmpL l l'
          | false => match decide (k = 5) with
            | true => cmpD d d'
            | false => 0
def cmpL : List GV → List GV → Int
  | [], [] => 0
  | [], _ :: _ => -1
  | _ :: _, [] => 1
  | x :: l, y :: m => match decide (cmpM x y = 0) with | true => cmpL l m | false => cmpM x y
def cmpD : List (ByteArray × GV) → List (ByteArray × GV) → Int
  | [], [] => 0
  | [], _ :: _ => -1
  | _ :: _, [] => 1
  | (a, x) :: l, (b, y) :: m => match decide (cmpText a b = 0) with
    | false => cmpText a b
    | true => match decide (cmpM x y = 0) with | true => cmpD l m | false => cmpM x y
end
def bestM (side : Int) (best v : GV) : GV := match !nothingM v && (decide (best.kind = 2) || decide (cmpM v best = side)) with | true => v | false => best
def extremeM (l : List GV) (side : Int) : GV :=
  (match l with
    | [x] => (match decide (x.kind = 6) with | true => x.list | false => [x])
    | l => l).foldl (bestM side) gNull
def comparedM (op : ByteArray) (c : Int) : GV :=
  match decide (op = oEq) with
  | true => gBool (decide (c = 0))
  | false => match decide (op = oNe) with
    | true => gBool (!(decide (c = 0)))
    | false => match decide (op = oGt) with
      | true => gBool (decide (0 < c))
      | false => match decide (op = oGte) with
        | true => gBool (decide (0 ≤ c))
        | false => match decide (op = oLt) with
          | true => gBool (decide (c < 0))
          | false => match decide (op = oLte) with
            | true => gBool (decide (c ≤ 0))
            | false => gInt c
/-- The operators to which nothing is something. -/
inductive Lo where | unk | none | some (g : GV)
def looseM (op : ByteArray) (l : List GV) : Lo :=
  match memB op [oEq, oNe, oGt, oGte, oLt, oLte, oCmp] with
  | true => match l with | [a, b] => .some (comparedM op (cmpM (fullM a) (fullM b))) | _ => .unk
  | false => match decide (op = oMax) with
    | true => match l with | [] => .unk | l => .some (extremeM l 1)
    | false => match decide (op = oMin) with
      | true => match l with | [] => .unk | l => .some (extremeM l (-1))
      | false => match decide (op = oNot) with
        | true => match l with | [a] => .some (gBool (!truthM a)) | _ => .unk
        | false => match decide (op = oToBool) with
          | true => match l with | [a] => .some (gBool (truthM a)) | _ => .unk
          | false => match decide (op = oType) || decide (op = oHas) with
            | true => .unk
            | false => .none
def addM : List GV → Int → Int → Rs Int
  | [], n, k => .ok n k
  | v :: l, n, k => match inInt (n + v.int) with | true => addM l (n + v.int) k | false => .fail 52 k
def mulM : List GV → Int → Int → Rs Int
  | [], n, k => .ok n k
  | v :: l, n, k => match inInt (n * v.int) with | true => mulM l (n * v.int) k | false => .fail 52 k
/-- The kind of a sum: a number, or once a date. -/
def addKind : List GV → Int → Option Int
  | [], k => some k
  | v :: l, k => match decide (v.kind = 10) && decide (k = 3) with
    | true => addKind l 10
    | false => match decide (v.kind = 3) with | true => addKind l k | false => none
def allKind (k : Int) (l : List GV) : Bool := l.all fun g => decide (g.kind = k)
def strictM (op : ByteArray) (l : List GV) (k : Int) : Rs GV :=
  match decide (op = oAdd) with
  | true => match l with
    | [] => .unk
    | v :: r => match addKind (v :: r) 3 with
      | none => .fail 51 k
      | some kd => (addM r v.int k).bind fun n k => .ok (.mk kd n ⟨#[]⟩ [] []) k
  | false => match decide (op = oSubtract) with
    | true => match l with
      | [a, b] => match decide (a.kind = 10) && decide (b.kind = 3) with
        | true => (match inInt (a.int - b.int) with | true => .ok (gDate (a.int - b.int)) k | false => .fail 52 k)
        | false => match !(decide (a.kind = b.kind)) || (!(decide (a.kind = 3)) && !(decide (a.kind = 10))) with
          | true => .fail 51 k
          | false => numM (a.int - b.int) k
      | _ => .unk
    | false => match decide (op = oMultiply) with
      | true => match l with
        | [] => .unk
        | v :: r => match allKind 3 (v :: r) with
          | false => .fail 51 k
          | true => (mulM r v.int k).bind fun n k => .ok (gInt n) k
      | false => match decide (op = oDivide) || decide (op = oMod) with
        | true => match l with
          | [a, b] => match allKind 3 [a, b] with
            | false => .fail 51 k
            | true => match decide (b.int = 0) with
              | true => .fail 53 k
              | false => match decide (op = oMod) with
                | true => .ok (gInt (a.int.tmod b.int)) k
                | false => numM (a.int.tdiv b.int) k
          | _ => .unk
        | false => .unk
def stepF (ev : Nd → GV → List (ByteArray × GV) → Int → Rs GV) (x : Nd) (doc : GV) (s : List (ByteArray × GV)) (k : Int) : Rs GV := match decide (20000 ≤ k) with
    | true => .fail 54 k
    | false => ev x doc s (k + 1)
def pileF (ev : Nd → GV → List (ByteArray × GV) → Int → Rs GV) : List Nd → Nat → GV → List (ByteArray × GV) → Int → Int → Rs (List GV)
  | [], _, _, _, _, k => .ok [] k
  | x :: l, i, doc, s, room, k => (stepF ev x doc s k).bind fun g k =>
    match decide (pileM i (fullM g) room < 0) with
    | true => .fail 3 k
    | false => (pileF ev l (i + 1) doc s (pileM i (fullM g) room) k).bind fun r k => .ok (fullM g :: r) k
def rowF (ev : Nd → GV → List (ByteArray × GV) → Int → Rs GV) : List Nd → GV → List (ByteArray × GV) → Int → Rs (List GV)
  | [], _, _, k => .ok [] k
  | x :: l, doc, s, k => (stepF ev x doc s k).bind fun g k => (rowF ev l doc s k).bind fun r k => .ok (g :: r) k
def callE (ev : Nd → GV → List (ByteArray × GV) → Int → Rs GV) (op : ByteArray) (args : List Nd) (doc : GV) (s : List (ByteArray × GV)) (k : Int) : Rs GV :=
    match decide (op = oLiteral) with
    | true => match args with | [] => .unk | a :: _ => ev a doc s k
    | false => match decide (op = oAnd) || decide (op = oOr) with
      | true => .unk
      | false => match decide (op = oCond) with
        | true => match args with
          | [a, b, c] => (stepF ev a doc s k).bind fun t k => (stepF ev (match truthM t with | true => b | false => c) doc s k).bind fun g k => withinM (fullM g) k
          | _ => .unk
        | false => match decide (op = oIfNull) with
          | true => .unk
          | false => (rowF ev args doc s k).bind fun l k => match looseM op l with
            | .unk => .unk
            | .some g => withinM g k
            | .none => match l.any nothingM with
              | true => .ok gNull k
              | false => (strictM op l k).bind fun g k => withinM g k
def evalF : Nat → Nd → GV → List (ByteArray × GV) → Int → Rs GV
  | 0, _, _, _, _ => .unk
  | n + 1, x, doc, s, k => match x with
    | .lit g => .ok g k
    | .con g => .ok g k
    | .fld p => .ok (pickM p doc) k
    | .var m p => .ok (pickM p (match lookS m s with | some g => g | none => doc)) k
    | .lst l => (pileF (evalF n) l 0 doc s 65531 k).bind fun l k => .ok (gList l) k
    | .docm _ => .unk
    | .loop _ _ _ _ _ => .unk
    | .call op args => callE (evalF n) op args doc s k
/-- What an expression comes to of a document: a value, and an error. -/
def workM (n : Nat) (g doc : GV) : Option (GV × Int) :=
  match decide (rightM g = 0) with
  | false => some (gZero, rightM g)
  | true => match parseF n [] g with
    | .unk => none
    | .no => some (gZero, 50)
    | .yes x => match stepF (evalF n) x doc [] 0 with
      | .unk => none
      | .ok v _ => some (v, 0)
      | .fail e _ => some (gZero, e)
end Go.Eng
/- Work on expressions, with what single operators do left open. -/
namespace Go.Eng
def pileP (ev : Nd → GV → List (ByteArray × GV) → Int → Rs GV) (doc : GV) (s : List (ByteArray × GV)) : List Nd → Nat → Int → Int → Rs (List GV)
  | [], _, _, k => .ok [] k
  | x :: l, i, room, k => match stepF ev x doc s k with
    | .unk => .unk
    | .fail e k => .fail e k
    | .ok g k => match decide (pileM i (fullM g) room < 0) with
      | true => .fail 3 k
      | false => match pileP ev doc s l (i + 1) (pileM i (fullM g) room) k with
        | .unk => .unk
        | .fail e k => .fail e k
        | .ok r k => .ok (fullM g :: r) k
def rowP (ev : Nd → GV → List (ByteArray × GV) → Int → Rs GV) (doc : GV) (s : List (ByteArray × GV)) : List Nd → Int → Rs (List GV)
  | [], k => .ok [] k
  | x :: l, k => match stepF ev x doc s k with
    | .unk => .unk
    | .fail e k => .fail e k
    | .ok g k => match rowP ev doc s l k with
      | .unk => .unk
      | .fail e k => .fail e k
      | .ok r k => .ok (g :: r) k
/-- What operators do to values. -/
structure Ops where
  lo : ByteArray → List GV → Lo
  st : ByteArray → List GV → Int → Rs GV
def plainP (O : Ops) (ev : Nd → GV → List (ByteArray × GV) → Int → Rs GV) (op : ByteArray) (args : List Nd) (doc : GV) (s : List (ByteArray × GV)) (k : Int) : Rs GV :=
  match rowP ev doc s args k with
  | .unk => .unk
  | .fail e k => .fail e k
  | .ok l k => match O.lo op l with
    | .unk => .unk
    | .some g => withinM g k
    | .none => match l.any nothingM with
      | true => .ok gNull k
      | false => match O.st op l k with
        | .unk => .unk
        | .fail e k => .fail e k
        | .ok g k => withinM g k
def condP (ev : Nd → GV → List (ByteArray × GV) → Int → Rs GV) (a b c : Nd) (doc : GV) (s : List (ByteArray × GV)) (k : Int) : Rs GV :=
  match stepF ev a doc s k with
  | .unk => .unk
  | .fail e k => .fail e k
  | .ok t k => match stepF ev (match truthM t with | true => b | false => c) doc s k with
    | .unk => .unk
    | .fail e k => .fail e k
    | .ok g k => withinM (fullM g) k
def callP (O : Ops) (ev : Nd → GV → List (ByteArray × GV) → Int → Rs GV) (op : ByteArray) (args : List Nd) (doc : GV) (s : List (ByteArray × GV)) (k : Int) : Rs GV :=
  match decide (op = oLiteral) with
  | true => match args with | [] => .unk | a :: _ => ev a doc s k
  | false => match decide (op = oAnd) || decide (op = oOr) with
    | true => .unk
    | false => match decide (op = oCond) with
      | true => match args with
        | [a, b, c] => condP ev a b c doc s k
        | _ => .unk
      | false => match decide (op = oIfNull) with
        | true => .unk
        | false => plainP O ev op args doc s k
def evalP (O : Ops) : Nat → Nd → GV → List (ByteArray × GV) → Int → Rs GV
  | 0, _, _, _, _ => .unk
  | n + 1, x, doc, s, k => match x with
    | .lit g => .ok g k
    | .con g => .ok g k
    | .fld p => .ok (pickM p doc) k
    | .var m p => .ok (pickM p (match lookS m s with | some g => g | none => doc)) k
    | .lst l => match pileP (evalP O n) doc s l 0 65531 k with
      | .unk => .unk
      | .fail e k => .fail e k
      | .ok l k => .ok (gList l) k
    | .docm _ => .unk
    | .loop _ _ _ _ _ => .unk
    | .call op args => callP O (evalP O n) op args doc s k
/-- What an expression comes to of a document: a value, and an error. -/
def workP (O : Ops) (n : Nat) (g doc : GV) : Option (GV × Int) :=
  match decide (rightM g = 0) with
  | false => some (gZero, rightM g)
  | true => match parseF n [] g with
    | .unk => none
    | .no => some (gZero, 50)
    | .yes x => match stepF (evalP O n) x doc [] 0 with
      | .unk => none
      | .ok v _ => some (v, 0)
      | .fail e _ => some (gZero, e)
/-! ### Numbers -/
def maxV (b : GV) : List GV → GV
  | [] => b
  | v :: l => maxV (match decide (b.int < v.int) with | true => v | false => b) l
def sumL (n : Int) : List GV → Int → Rs Int
  | [], k => .ok n k
  | v :: l, k => match inInt (n + v.int) with | true => sumL (n + v.int) l k | false => .fail 52 k
def mulL (n : Int) : List GV → Int → Rs Int
  | [], k => .ok n k
  | v :: l, k => match inInt (n * v.int) with | true => mulL (n * v.int) l k | false => .fail 52 k
def numR : Rs Int → Rs GV
  | .unk => .unk
  | .fail e k => .fail e k
  | .ok n k => .ok (gInt n) k
def looseI (op : ByteArray) (l : List GV) : Lo := match allKind 3 l with
  | false => .unk
  | true => match decide (op = oGt) with
    | true => match l with | [a, b] => .some (gBool (decide (b.int < a.int))) | _ => .unk
    | false => match decide (op = oMax) with
      | true => match l with | [] => .unk | v :: r => .some (maxV v r)
      | false => match memB op [oAdd, oSubtract, oMultiply, oDivide, oMod] with
        | true => .none
        | false => .unk
def strictI (op : ByteArray) (l : List GV) (k : Int) : Rs GV := match allKind 3 l && l.all (fun g => inInt g.int) with
  | false => .unk
  | true => match decide (op = oAdd) with
    | true => match l with | [] => .unk | v :: r => numR (sumL v.int r k)
    | false => match decide (op = oSubtract) with
      | true => match l with | [a, b] => numM (a.int - b.int) k | _ => .unk
      | false => match decide (op = oMultiply) with
        | true => match l with | [] => .unk | v :: r => numR (mulL v.int r k)
        | false => match decide (op = oDivide) || decide (op = oMod) with
          | true => match l with
            | [a, b] => match decide (b.int = 0) with
              | true => .fail 53 k
              | false => match decide (op = oMod) with
                | true => .ok (gInt (a.int.tmod b.int)) k
                | false => numM (a.int.tdiv b.int) k
            | _ => .unk
          | false => .unk
def OI : Ops := ⟨looseI, strictI⟩
end Go.Eng
/- Work on expressions, loops and all. -/
namespace Go.Eng
def mapP (ev : Nd → GV → List (ByteArray × GV) → Int → Rs GV) (doc : GV) (s : List (ByteArray × GV)) (nm : ByteArray) (body : Nd) : List GV → Nat → Int → Int → Rs (List GV)
  | [], _, _, k => .ok [] k
  | x :: l, i, room, k => match stepF ev body doc ((nm, x) :: s) k with
    | .unk => .unk
    | .fail e k => .fail e k
    | .ok g k => match decide (pileM i (fullM g) room < 0) with
      | true => .fail 3 k
      | false => match mapP ev doc s nm body l (i + 1) (pileM i (fullM g) room) k with
        | .unk => .unk
        | .fail e k => .fail e k
        | .ok r k => .ok (fullM g :: r) k
def redP (ev : Nd → GV → List (ByteArray × GV) → Int → Rs GV) (doc : GV) (s : List (ByteArray × GV)) (body : Nd) : List GV → GV → Int → Rs GV
  | [], sum, k => withinM sum k
  | x :: l, sum, k => match stepF ev body doc ((sThis, x) :: (sValue, sum) :: s) k with
    | .unk => .unk
    | .fail e k => .fail e k
    | .ok g k => redP ev doc s body l (fullM g) k
def mapE (ev : Nd → GV → List (ByteArray × GV) → Int → Rs GV) (nm : ByteArray) (over body : Nd) (doc : GV) (s : List (ByteArray × GV)) (k : Int) : Rs GV :=
  match stepF ev over doc s k with
  | .unk => .unk
  | .fail e k => .fail e k
  | .ok g k => match nothingM g with
    | true => .ok gNull k
    | false => match decide (g.kind = 6) with
      | false => .fail 51 k
      | true => match mapP ev doc s nm body g.list 0 65531 k with
        | .unk => .unk
        | .fail e k => .fail e k
        | .ok l k => .ok (gList l) k
def redE (ev : Nd → GV → List (ByteArray × GV) → Int → Rs GV) (over first body : Nd) (doc : GV) (s : List (ByteArray × GV)) (k : Int) : Rs GV :=
  match stepF ev over doc s k with
  | .unk => .unk
  | .fail e k => .fail e k
  | .ok g k => match nothingM g with
    | true => .ok gNull k
    | false => match decide (g.kind = 6) with
      | false => .fail 51 k
      | true => match stepF ev first doc s k with
        | .unk => .unk
        | .fail e k => .fail e k
        | .ok f k => redP ev doc s body g.list (fullM f) k
def loopE (ev : Nd → GV → List (ByteArray × GV) → Int → Rs GV) (op nm : ByteArray) (over : Nd) (first : Option Nd) (body : Nd) (doc : GV) (s : List (ByteArray × GV)) (k : Int) : Rs GV :=
  match decide (op = oReduce), first with
  | true, some f => match decide (nm = ⟨#[]⟩) with
    | true => redE ev over f body doc s k
    | false => .unk
  | false, none => match decide (op = oMap) with
    | true => mapE ev nm over body doc s k
    | false => .unk
  | _, _ => .unk
def evalL (O : Ops) : Nat → Nd → GV → List (ByteArray × GV) → Int → Rs GV
  | 0, _, _, _, _ => .unk
  | n + 1, x, doc, s, k => match x with
    | .lit g => .ok g k
    | .con g => .ok g k
    | .fld p => .ok (pickM p doc) k
    | .var m p => .ok (pickM p (match lookS m s with | some g => g | none => doc)) k
    | .lst l => match pileP (evalL O n) doc s l 0 65531 k with
      | .unk => .unk
      | .fail e k => .fail e k
      | .ok l k => .ok (gList l) k
    | .docm _ => .unk
    | .loop op nm over first body => loopE (evalL O n) op nm over first body doc s k
    | .call op args => callP O (evalL O n) op args doc s k
end Go.Eng

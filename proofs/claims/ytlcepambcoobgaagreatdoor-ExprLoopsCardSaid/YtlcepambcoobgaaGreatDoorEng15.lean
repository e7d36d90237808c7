/- Eng15: an engine for the program's code, and walks of its functions (Wlib Wa Wb Wc Wd). -/
import Derived.Test.YtlcepambcoobgaaGreatDoorEng14
import Derived.Test.YtlcepambcoobgaaGreatDoorEng13
namespace Go.Eng
open Go.Proofs Go.RowKit
set_option maxRecDepth 100000
theorem argStr {w : World} {F : Nat → Prop} {s : ByteArray} {vs : List Value} (h : All2 (RepF w F) [.str s] vs) : vs = [.string s] ∧ s.size ≤ R := by
  obtain ⟨v, rfl, hv⟩ := All2F.one h
  obtain ⟨rfl, hp⟩ := RepF_lit hv
  exact ⟨rfl, hp⟩
theorem below_same {w w' : World} (h : w' = w) : Below w.heap.size w w' := by subst h; exact .refl _ _
theorem below_drewN (w : World) : ∀ k, Below w.heap.size w (w.drewN k)
  | 0 => .refl _ _
  | k + 1 => (below_drewN w k).drew
theorem itoa_ok (n : Int) (h0 : -9223372036854775808 ≤ n) (h1 : n ≤ 9223372036854775807) : PSpec cxA 184 [.int n] (.ret (.str ⟨(Lib.itoa n).toArray⟩)) := by
  refine PSpec.of_plain (show (Lib.itoa n).toArray.size ≤ R by have := Lib.itoa_length_le n h0 h1; simp only [R]; simp; omega) Tryz.call184 fun w F vs hG ha => ?_
  obtain ⟨v, rfl, hv⟩ := All2F.one ha
  obtain ⟨rfl, _⟩ := RepF_lit hv
  refine (Tryz.strconv_Itoa n h0 h1 w (laidA hG).1).mono fun e w' ⟨he, k, os, hw⟩ => ⟨he, ?_⟩
  subst hw
  exact ⟨rfl, rfl, rfl, by show _ ≤ (_ ++ os).size; simp, fun b hb => by show (w.heap ++ os)[b]? = _; rw [Array.getElem?_append_left hb]⟩
theorem valid_ok (s : ByteArray) : PSpec cxA 185 [.str s] (.ret (.bool (validM s))) := by
  refine PSpec.of_plain (show Plain (.bool _) from trivial) Tryz.call185 fun w F vs hG ha => ?_
  obtain ⟨rfl, hs⟩ := argStr ha
  exact Tryz.utf8_ValidString s w (by simp only [R] at hs; omega) (laidA hG).2.1
theorem indexByte_ok (s : ByteArray) (c : UInt8) : PSpec cxA 186 [.str s, .lit (.int .u8 c.toNat)] (.ret (.int (Lib.indexByte s.data.toList c))) := by
  refine PSpec.of_plain (show Plain (.int _ _) from trivial) Tryz.call186 fun w F vs hG ha => ?_
  obtain ⟨v, u, rfl, hv, hu⟩ := All2F.two ha
  obtain ⟨rfl, _⟩ := RepF_lit hv
  obtain ⟨rfl, _⟩ := RepF_lit hu
  refine (Tryz.strings_IndexByte s c.toNat w).mono fun e w' ⟨he, hw⟩ => ⟨?_, below_same hw⟩
  rw [he]
  simp
theorem hasPrefix_ok (s p : ByteArray) : PSpec cxA 115 [.str s, .str p] (.ret (.bool (Lib.hasPrefix s.data.toList p.data.toList))) := by
  refine PSpec.of_plain (show Plain (.bool _) from trivial) Tryz.call115 fun w F vs hG ha => ?_
  obtain ⟨v, u, rfl, hv, hu⟩ := All2F.two ha
  obtain ⟨rfl, _⟩ := RepF_lit hv
  obtain ⟨rfl, _⟩ := RepF_lit hu
  exact (Tryz.strings_HasPrefix s p w).mono fun e w' ⟨he, hw⟩ => ⟨he, below_same hw⟩
theorem count_ok (s : ByteArray) (c : UInt8) : PSpec cxA 145 [.str s, .str ⟨#[c]⟩] (.ret (.int (Lib.countByte s.data.toList c))) := by
  refine PSpec.of_plain (show Plain (.int _ _) from trivial) Tryz.call145 fun w F vs hG ha => ?_
  obtain ⟨v, u, rfl, hv, hu⟩ := All2F.two ha
  obtain ⟨rfl, _⟩ := RepF_lit hv
  obtain ⟨rfl, _⟩ := RepF_lit hu
  exact (Tryz.strings_Count_one s c w).mono fun e w' ⟨he, hw⟩ => ⟨he, below_same hw⟩
theorem compare_ok (a b : ByteArray) : PSpec cxA 191 [.str a, .str b] (.ret (.int (Lib.compareBytes a.data.toList b.data.toList))) := by
  refine PSpec.of_plain (show Plain (.int _ _) from trivial) Tryz.call191 fun w F vs hG ha => ?_
  obtain ⟨v, u, rfl, hv, hu⟩ := All2F.two ha
  obtain ⟨rfl, _⟩ := RepF_lit hv
  obtain ⟨rfl, _⟩ := RepF_lit hu
  exact (Tryz.strings_Compare a b w).mono fun e w' ⟨he, hw⟩ => ⟨he, below_same hw⟩
theorem runeCount_ok (s : ByteArray) : PSpec cxA 207 [.str s] (.ret (.int (Lib.runeCount s))) := by
  refine PSpec.of_plain (show Plain (.int _ _) from trivial) Tryz.call207 fun w F vs hG ha => ?_
  obtain ⟨rfl, hs⟩ := argStr ha
  refine (Tryz.utf8_RuneCountInString s w (by simp only [R] at hs; omega)).mono fun e w' ⟨he, pos, hw⟩ => ⟨he, ?_⟩
  subst hw
  exact (Below.refl _ _).alloc (Nat.le_refl _) _
theorem mul64_ok (x y : Nat) (hx : x < 18446744073709551616) (hy : y < 18446744073709551616) : PSpec cxA 416 [.lit (.int .u64 x), .lit (.int .u64 y)] (.ret (.tup [.lit (.int .u64 ((x * y / 18446744073709551616 : Nat) : Int)), .lit (.int .u64 ((x * y % 18446744073709551616 : Nat) : Int))])) := by
  refine .of_calls Tryz.call416 fun w F vs hF hG ha => ?_
  obtain ⟨v, u, rfl, hv, hu⟩ := All2F.two ha
  obtain ⟨rfl, _⟩ := RepF_lit hv
  obtain ⟨rfl, _⟩ := RepF_lit hu
  refine (Tryz.bits_Mul64 x y hx hy w).mono fun e w' ⟨he, hw⟩ => ⟨F, ?_, .of_below hF (below_same hw)⟩
  subst he
  refine .ret (.tup rfl fun i hi hi' => ?_)
  match i, hi with
  | 0, _ => exact .lit (show Plain (.int _ _) from trivial)
  | 1, _ => exact .lit (show Plain (.int _ _) from trivial)
theorem splitB_le (sep : ByteArray) : ∀ (k : Nat) (s p : ByteArray), p ∈ Lib.splitB sep 0 k s → p.size ≤ s.size
  | 0, s, p, h => by
    rw [Lib.splitB_zero] at h
    obtain rfl := List.mem_singleton.1 h
    exact Nat.le_refl _
  | k + 1, s, p, h => by
    unfold Lib.splitB at h
    split at h
    · obtain rfl := List.mem_singleton.1 h
      exact Nat.le_refl _
    · rcases List.mem_cons.1 h with rfl | h
      · simp [ByteArray.size_extract]; omega
      · have := splitB_le sep k _ p h
        simp [ByteArray.size_extract] at this; omega
theorem split_ok (s : ByteArray) (hs : s.size < 4294967281) : PSpec cxA 146 [.str s, .str ⟨#[46]⟩] (.ret (.lz (.gs (Lib.splitB ⟨#[46]⟩ 0 (Lib.countB s ⟨#[46]⟩) s)))) := by
  refine .of_calls Tryz.call146 fun w F vs hF hG ha => ?_
  obtain ⟨v, u, rfl, hv, hu⟩ := All2F.two ha
  obtain ⟨rfl, _⟩ := RepF_lit hv
  obtain ⟨rfl, _⟩ := RepF_lit hu
  obtain ⟨m, hm⟩ := (laidA hG).2.2
  have hl := Lib.splitB_all ⟨#[46]⟩ (by decide) 0 _ s rfl
  have hc := Lib.countB_le ⟨#[46]⟩ (by decide) s.size s (Nat.le_refl _)
  have hm2 := splitB_le ⟨#[46]⟩ (Lib.countB s ⟨#[46]⟩) s
  refine (Tryz.strings_Split s ⟨#[46]⟩ m w hs hm (by decide)).mono fun e w' ⟨he, hw⟩ => ⟨fun b => F b ∨ b = w.heap.size, ?_, ?_⟩
  · subst he
    subst hw
    generalize hL : Lib.splitB ⟨#[46]⟩ 0 (Lib.countB s ⟨#[46]⟩) s = L at *
    generalize Lib.countB s ⟨#[46]⟩ = n at *
    refine .ret (.lz ?_)
    have hR : R = 140737488355328 := rfl
    show RepF _ _ (.fsl none 1 16 L.length _) _
    rw [hl]
    refine .fs (fun i _ => .string (L.getD i default)) (by omega) (.inr rfl) (fun _ h => by cases h) (Nat.le_refl _) (by omega) (fun _ _ => rfl) (fun i j hi hj => ?_) (fun i j hi hj => ?_)
    · obtain rfl : j = 0 := by omega
      refine ⟨?_, rfl⟩
      have : i < L.length := by omega
      have e : ∀ o, (w.alloc o).heap[w.heap.size]? = some o := fun o => heap_push_new w o
      simp only [World.cell?, e, Nat.zero_add, Nat.mul_one, Nat.add_zero]
      have hg : (L.map Value.string).toArray[i]? = some (.string (L.getD i default)) := by
        rw [List.getElem?_toArray, List.getElem?_map, List.getElem?_eq_getElem this, List.getD_eq_getElem?_getD, List.getElem?_eq_getElem this]; rfl
      exact hg
    · have h0 : j = 0 := by simp at hj; exact hj
      subst h0
      refine .lit (show (L.getD i default).size ≤ R from ?_)
      have hi2 : i < L.length := by omega
      have := hm2 (L.getD i default) (by simp [hi2])
      omega
  · subst hw
    have hb := (Below.refl w.heap.size w).alloc (Nat.le_refl _) (.cells ((Lib.splitB ⟨#[46]⟩ 0 (Lib.countB s ⟨#[46]⟩) s).map Value.string).toArray 9)
    refine ⟨hb.os, hb.tape, hb.output, hb.size, hb.block, fun b h => h.imp id (fun h => by omega), fun b h => ?_⟩
    simp only [World.alloc, Array.size_push]
    rcases h with h | h
    · have := hF b h; omega
    · omega
end Go.Eng
namespace Go.Eng
open Go.Proofs
set_option maxRecDepth 10000
theorem int_ok (n : Int) : PSpec cxA 32 [.int n] (.ret (.agg (gInt n).cells)) := by
  refine PSpec.of_WC cxA_ok Tryz.func32 rfl Tryz.call32 (Nat.le_of_ble_eq_true rfl) (g := 1) ?_
  conv => whnf
  repeat' ((first | refine RegP.enter ?_ | refine DrawP.range (by kernel_rfl) ?_ | refine BuildP.frz ⟨rfl, ?_⟩ | refine BoxP.row ?_ | refine And.intro (Nat.succ_pos _) ?_ | fail); conv => whnf)
  refine Ent.of_check ?_ rfl
  conv => whnf
  (iterate 3 ((all_goals try (conv => whnf)); (repeat' first | exact ⟨⟩ | refine And.intro ?_ ?_ | rfl | exact fun _ h => h | exact .inl rfl | exact none_some | exact .inr in4 | fail)))
theorem text_ok (s : ByteArray) : PSpec cxA 33 [.str s] (.ret (.agg (gText s).cells)) := by
  refine PSpec.of_WC cxA_ok Tryz.func33 rfl Tryz.call33 (Nat.le_of_ble_eq_true rfl) (g := 1) ?_
  conv => whnf
  repeat' ((first | refine RegP.enter ?_ | refine DrawP.range (by kernel_rfl) ?_ | refine BuildP.frz ⟨rfl, ?_⟩ | refine BoxP.row ?_ | refine And.intro (Nat.succ_pos _) ?_ | fail); conv => whnf)
  refine Ent.of_check ?_ rfl
  conv => whnf
  (iterate 3 ((all_goals try (conv => whnf)); (repeat' first | exact ⟨⟩ | refine And.intro ?_ ?_ | rfl | exact fun _ h => h | exact .inl rfl | exact none_some | exact .inr in4 | fail)))
theorem doc_ok (s : ByteArray) (g : GV) : PSpec cxA 27 [.str s, .agg g.cells] (.ret (.agg (gDoc s g).cells)) := by
  refine PSpec.of_WC cxA_ok Tryz.func27 rfl Tryz.call27 (Nat.le_of_ble_eq_true rfl) (g := 1) ?_
  conv => whnf
  repeat' ((first | refine RegP.enter ?_ | refine DrawP.range (by kernel_rfl) ?_ | refine BuildP.frz ⟨rfl, ?_⟩ | refine BoxP.row ?_ | refine And.intro (Nat.succ_pos _) ?_ | fail); conv => whnf)
  refine Ent.of_check ?_ rfl
  conv => whnf
  (iterate 3 ((all_goals try (conv => whnf)); (repeat' first | exact ⟨⟩ | refine And.intro ?_ ?_ | rfl | exact fun _ h => h | exact .inl rfl | exact none_some | exact .inr in4 | fail)))
theorem call_ok (s : ByteArray) (l : List GV) : PSpec cxA 31 [.str s, .lz (.gl l)] (.ret (.agg (gCall s l).cells)) := by
  refine PSpec.of_WC cxA_ok Tryz.func31 rfl Tryz.call31 (Nat.le_of_ble_eq_true rfl) (g := 1) ?_
  conv => whnf
  repeat' ((first | refine RegP.enter ?_ | refine DrawP.range (by kernel_rfl) ?_ | refine BuildP.frz ⟨rfl, ?_⟩ | refine BoxP.row ?_ | refine And.intro (Nat.succ_pos _) ?_ | fail); conv => whnf)
  refine call_le (doc_ok s (gList l)) ?_ (by rfl) (by rfl) ?_
  · (iterate 3 ((all_goals try (conv => whnf)); (repeat' first | exact ⟨⟩ | refine And.intro ?_ ?_ | rfl | exact fun _ h => h | exact .inl rfl | exact none_some | exact .inr in4 | fail)))
  conv => whnf
  repeat' ((first | refine RegP.enter ?_ | refine DrawP.range (by kernel_rfl) ?_ | refine BuildP.frz ⟨rfl, ?_⟩ | refine BoxP.row ?_ | refine And.intro (Nat.succ_pos _) ?_ | fail); conv => whnf)
  refine Ent.of_check ?_ rfl
  conv => whnf
  (iterate 3 ((all_goals try (conv => whnf)); (repeat' first | exact ⟨⟩ | refine And.intro ?_ ?_ | rfl | exact fun _ h => h | exact .inl rfl | exact none_some | exact .inr in4 | fail)))
end Go.Eng
namespace Go.Eng
open Go.Proofs
set_option maxRecDepth 10000
/-- What a weighing comes to: is there room, and how much is left. -/
def WR (a n : Int) (b : Bool) (r : Int) : Prop := (n ≤ a ∧ b = true ∧ r = a - n) ∨ (a < n ∧ b = false ∧ r = -1)
theorem WR.yes {a n : Int} (h : n ≤ a) : WR a n true (a - n) := .inl ⟨h, rfl, rfl⟩
theorem WR.no {a n : Int} (h : a < n) : WR a n false (-1) := .inr ⟨h, rfl, rfl⟩
theorem take_ok (a n : Int) (h1 : -1 ≤ a) (h2 : a ≤ 65536) (h3 : 0 ≤ n) {b : Bool} {r : Int} (hr : WR a n b r) : MSpec cxA 183 [.ptr (0,0,0) 0 0, .int n] [((0,0,0), .cells 1 8 [[.int a]])] (fun _ : Unit => .ret (.bool b)) (fun _ => [((0,0,0), .cells 1 8 [[.int r]])]) := by
  refine MSpec.of_WC cxA_ok Tryz.func183 rfl Tryz.call183 (Nat.le_of_ble_eq_true rfl) (g := 1) ?_
  conv => whnf
  repeat' ((first | refine RegP.enter ?_ | refine DrawP.range (by kernel_rfl) ?_ | refine BuildP.frz ⟨rfl, ?_⟩ | refine BoxP.row ?_ | refine And.intro (Nat.succ_pos _) ?_ | fail); conv => whnf)
  rcases hr with ⟨h, rfl, rfl⟩ | ⟨h, rfl, rfl⟩
  all_goals
    refine br (fun hb => ?_) (fun hb => ?_)
    · have hlt : a < n := by simpa using hb
      try rw [hb]
      conv => whnf
      repeat' ((first | refine RegP.enter ?_ | refine DrawP.range (by kernel_rfl) ?_ | refine BuildP.frz ⟨rfl, ?_⟩ | refine BoxP.row ?_ | refine And.intro (Nat.succ_pos _) ?_ | fail); conv => whnf)
      refine ⟨(), _, rfl, Sub.of_check [((0,0,0), .old true (0,0,0))] ?_ (by repeat' first | exact Gen0.emp | exact Gen0.ofH rfl | refine Gen0.put ?_ (by decide) | refine Gen0.put0 ?_ ⟨_, rfl⟩)⟩
      conv => whnf
      (iterate 3 ((all_goals try (conv => whnf)); (repeat' first | exact ⟨⟩ | refine And.intro ?_ ?_ | rfl | exact fun _ h => h | exact .inl rfl | exact none_some | exact .inr in4 | fail)))
      all_goals (first | omega | exact rfl)
    · have hge : n ≤ a := by
        have : ¬ a < n := by simpa using hb
        omega
      try rw [hb]
      conv => whnf
      repeat' ((first | refine RegP.enter ?_ | refine DrawP.range (by kernel_rfl) ?_ | refine BuildP.frz ⟨rfl, ?_⟩ | refine BoxP.row ?_ | refine And.intro (Nat.succ_pos _) ?_ | fail); conv => whnf)
      refine ⟨(), _, rfl, Sub.of_check [((0,0,0), .old true (0,0,0))] ?_ (by repeat' first | exact Gen0.emp | exact Gen0.ofH rfl | refine Gen0.put ?_ (by decide) | refine Gen0.put0 ?_ ⟨_, rfl⟩)⟩
      conv => whnf
      (iterate 3 ((all_goals try (conv => whnf)); (repeat' first | exact ⟨⟩ | refine And.intro ?_ ?_ | rfl | exact fun _ h => h | exact .inl rfl | exact none_some | exact .inr in4 | fail)))
      all_goals (first | omega | exact rfl | (rw [wrap64 (by omega) (by omega)]))
theorem take_yes (a n : Int) (h2 : a ≤ 65536) (h3 : 0 ≤ n) (h : n ≤ a) : MSpec cxA 183 [.ptr (0,0,0) 0 0, .int n] [((0,0,0), .cells 1 8 [[.int a]])] (fun _ : Unit => .ret (.bool true)) (fun _ => [((0,0,0), .cells 1 8 [[.int (a - n)]])]) :=
  take_ok a n (by omega) h2 h3 (.yes h)
theorem take_no (a n : Int) (h1 : -1 ≤ a) (h2 : a ≤ 65536) (h3 : 0 ≤ n) (h : a < n) : MSpec cxA 183 [.ptr (0,0,0) 0 0, .int n] [((0,0,0), .cells 1 8 [[.int a]])] (fun _ : Unit => .ret (.bool false)) (fun _ => [((0,0,0), .cells 1 8 [[.int (-1)]])]) :=
  take_ok a n h1 h2 h3 (.no h)
end Go.Eng
namespace Go.Eng
open Go.Proofs
set_option maxRecDepth 10000
theorem weigh_spec : ∀ (n : Nat) (g : GV), SizeOf.sizeOf g < n → ∀ (a : Int), 0 ≤ a → a ≤ 65536 → ∀ {b : Bool} {r : Int}, WR a g.sz b r →
    MSpec cxA 129 [.ptr (0,0,0) 0 0, .agg g.cells] [((0,0,0), .cells 1 8 [[.int a]])] (fun _ : Unit => .ret (.bool b)) (fun _ => [((0,0,0), .cells 1 8 [[.int r]])]) := by
  intro n
  induction n with
  | zero => intro g h; exact absurd h (Nat.not_lt_zero _)
  | succ n ih =>
  intro g hg a h0 h1 b r hr
  generalize hs : g.sz = sz at hr
  obtain ⟨kind, int, text, list, doc⟩ := g
  have leaf : ∀ (k : Nat), sz = k → MSpec cxA 183 [.ptr (0,0,0) 0 0, .int k] [((0,0,0), .cells 1 8 [[.int a]])] (fun _ : Unit => .ret (.bool b)) (fun _ => [((0,0,0), .cells 1 8 [[.int r]])]) := fun k hk => take_ok a k (by omega) h1 (by omega) (by rw [← hk]; exact hr)
  have two : sz = 5 + text.size → 5 ≤ a → MSpec cxA 183 [.ptr (0,0,0) 0 0, .int text.size] [((0,0,0), .cells 1 8 [[.int (a - 5)]])] (fun _ : Unit => .ret (.bool b)) (fun _ => [((0,0,0), .cells 1 8 [[.int r]])]) := fun hk h5 => take_ok (a - 5) text.size (by omega) (by omega) (by omega) (by
    rcases hr with ⟨h, h2, h3⟩ | ⟨h, h2, h3⟩
    · exact .inl ⟨by omega, h2, by omega⟩
    · exact .inr ⟨by omega, h2, h3⟩)
  have bad : a < sz → b = false ∧ r = -1 := fun h => by
    rcases hr with ⟨h', _⟩ | ⟨_, h2, h3⟩
    · omega
    · exact ⟨h2, h3⟩
  have good : (sz : Int) ≤ a → b = true ∧ r = a - sz := fun h => by
    rcases hr with ⟨_, h2, h3⟩ | ⟨h', _⟩
    · exact ⟨h2, h3⟩
    · omega
  refine MSpec.of_WC cxA_ok Tryz.func129 rfl Tryz.call129 (Nat.le_of_ble_eq_true rfl) (g := 1) ?_
  conv => whnf
  repeat' ((first | refine RegP.enter ?_ | refine DrawP.range (by kernel_rfl) ?_ | refine BuildP.frz ⟨rfl, ?_⟩ | refine BoxP.row ?_ | refine And.intro (Nat.succ_pos _) ?_ | fail); conv => whnf)
  refine br (fun hb => ?_) (fun hb => ?_)
  · try rw [hb]
    conv => whnf
    repeat' ((first | refine RegP.enter ?_ | refine DrawP.range (by kernel_rfl) ?_ | refine BuildP.frz ⟨rfl, ?_⟩ | refine BoxP.row ?_ | refine And.intro (Nat.succ_pos _) ?_ | fail); conv => whnf)
    refine call_mm [((0,0,0), .old true (0,0,0))] 1 15 (leaf 8 (by simp [GV.kind] at hb; rw [← hs]; simp [GV.sz, hb])) ?_ ?_ ?_
    · conv => whnf
      (iterate 3 ((all_goals try (conv => whnf)); (repeat' first | exact ⟨⟩ | refine And.intro ?_ ?_ | rfl | exact fun _ h => h | exact .inl rfl | exact none_some | exact .inr in4 | fail)))
    · intro _; conv => whnf
      (iterate 3 ((all_goals try (conv => whnf)); (repeat' first | exact ⟨⟩ | refine And.intro ?_ ?_ | rfl | exact fun _ h => h | exact .inl rfl | exact none_some | exact .inr in4 | fail)))
    intro x; conv => whnf
    refine ⟨(), _, rfl, Sub.of_check [((0,0,0), .old true (0,0,0))] ?_ (by repeat' first | exact Gen0.emp | exact Gen0.ofH rfl | refine Gen0.put ?_ (by decide) | refine Gen0.put0 ?_ ⟨_, rfl⟩)⟩
    conv => whnf
    (iterate 3 ((all_goals try (conv => whnf)); (repeat' first | exact ⟨⟩ | refine And.intro ?_ ?_ | rfl | exact fun _ h => h | exact .inl rfl | exact none_some | exact .inr in4 | fail)))
  try rw [hb]
  conv => whnf
  repeat' ((first | refine RegP.enter ?_ | refine DrawP.range (by kernel_rfl) ?_ | refine BuildP.frz ⟨rfl, ?_⟩ | refine BoxP.row ?_ | refine And.intro (Nat.succ_pos _) ?_ | fail); conv => whnf)
  refine br (fun hb2 => ?_) (fun hb2 => ?_)
  · try rw [hb2]
    conv => whnf
    repeat' ((first | refine RegP.enter ?_ | refine DrawP.range (by kernel_rfl) ?_ | refine BuildP.frz ⟨rfl, ?_⟩ | refine BoxP.row ?_ | refine And.intro (Nat.succ_pos _) ?_ | fail); conv => whnf)
    refine call_mm [((0,0,0), .old true (0,0,0))] 1 15 (leaf 8 (by simp [GV.kind] at hb hb2; rw [← hs]; simp [GV.sz, hb2])) ?_ ?_ ?_
    · conv => whnf
      (iterate 3 ((all_goals try (conv => whnf)); (repeat' first | exact ⟨⟩ | refine And.intro ?_ ?_ | rfl | exact fun _ h => h | exact .inl rfl | exact none_some | exact .inr in4 | fail)))
    · intro _; conv => whnf
      (iterate 3 ((all_goals try (conv => whnf)); (repeat' first | exact ⟨⟩ | refine And.intro ?_ ?_ | rfl | exact fun _ h => h | exact .inl rfl | exact none_some | exact .inr in4 | fail)))
    intro x; conv => whnf
    refine ⟨(), _, rfl, Sub.of_check [((0,0,0), .old true (0,0,0))] ?_ (by repeat' first | exact Gen0.emp | exact Gen0.ofH rfl | refine Gen0.put ?_ (by decide) | refine Gen0.put0 ?_ ⟨_, rfl⟩)⟩
    conv => whnf
    (iterate 3 ((all_goals try (conv => whnf)); (repeat' first | exact ⟨⟩ | refine And.intro ?_ ?_ | rfl | exact fun _ h => h | exact .inl rfl | exact none_some | exact .inr in4 | fail)))
  try rw [hb2]
  conv => whnf
  repeat' ((first | refine RegP.enter ?_ | refine DrawP.range (by kernel_rfl) ?_ | refine BuildP.frz ⟨rfl, ?_⟩ | refine BoxP.row ?_ | refine And.intro (Nat.succ_pos _) ?_ | fail); conv => whnf)
  refine br (fun hb3 => ?_) (fun hb3 => ?_)
  · have hs2 : sz = 5 + text.size := by simp [GV.kind] at hb hb2 hb3; rw [← hs]; simp [GV.sz, hb3]
    try rw [hb3]
    conv => whnf
    repeat' ((first | refine RegP.enter ?_ | refine DrawP.range (by kernel_rfl) ?_ | refine BuildP.frz ⟨rfl, ?_⟩ | refine BoxP.row ?_ | refine And.intro (Nat.succ_pos _) ?_ | fail); conv => whnf)
    by_cases h5 : 5 ≤ a
    · refine call_mm [((0,0,0), .old true (0,0,0))] 1 20 (take_yes a 5 h1 (by omega) h5) ?_ ?_ ?_
      · conv => whnf
        (iterate 3 ((all_goals try (conv => whnf)); (repeat' first | exact ⟨⟩ | refine And.intro ?_ ?_ | rfl | exact fun _ h => h | exact .inl rfl | exact none_some | exact .inr in4 | fail)))
      · intro _; conv => whnf
        (iterate 3 ((all_goals try (conv => whnf)); (repeat' first | exact ⟨⟩ | refine And.intro ?_ ?_ | rfl | exact fun _ h => h | exact .inl rfl | exact none_some | exact .inr in4 | fail)))
      intro x; conv => whnf
      refine call_mm [((0,0,0), .old true (0,0,0))] 1 26 (two hs2 h5) ?_ ?_ ?_
      · conv => whnf
        (iterate 3 ((all_goals try (conv => whnf)); (repeat' first | exact ⟨⟩ | refine And.intro ?_ ?_ | rfl | exact fun _ h => h | exact .inl rfl | exact none_some | exact .inr in4 | fail)))
      · intro _; conv => whnf
        (iterate 3 ((all_goals try (conv => whnf)); (repeat' first | exact ⟨⟩ | refine And.intro ?_ ?_ | rfl | exact fun _ h => h | exact .inl rfl | exact none_some | exact .inr in4 | fail)))
      intro x; conv => whnf
      refine ⟨(), _, rfl, Sub.of_check [((0,0,0), .old true (0,0,0))] ?_ (by repeat' first | exact Gen0.emp | exact Gen0.ofH rfl | refine Gen0.put ?_ (by decide) | refine Gen0.put0 ?_ ⟨_, rfl⟩)⟩
      conv => whnf
      (iterate 3 ((all_goals try (conv => whnf)); (repeat' first | exact ⟨⟩ | refine And.intro ?_ ?_ | rfl | exact fun _ h => h | exact .inl rfl | exact none_some | exact .inr in4 | fail)))
    · refine call_mm [((0,0,0), .old true (0,0,0))] 1 20 (take_no a 5 (by omega) h1 (by omega) (by omega)) ?_ ?_ ?_
      · conv => whnf
        (iterate 3 ((all_goals try (conv => whnf)); (repeat' first | exact ⟨⟩ | refine And.intro ?_ ?_ | rfl | exact fun _ h => h | exact .inl rfl | exact none_some | exact .inr in4 | fail)))
      · intro _; conv => whnf
        (iterate 3 ((all_goals try (conv => whnf)); (repeat' first | exact ⟨⟩ | refine And.intro ?_ ?_ | rfl | exact fun _ h => h | exact .inl rfl | exact none_some | exact .inr in4 | fail)))
      intro x; conv => whnf
      obtain ⟨rfl, rfl⟩ := bad (by omega)
      refine ⟨(), _, rfl, Sub.of_check [((0,0,0), .old true (0,0,0))] ?_ (by repeat' first | exact Gen0.emp | exact Gen0.ofH rfl | refine Gen0.put ?_ (by decide) | refine Gen0.put0 ?_ ⟨_, rfl⟩)⟩
      conv => whnf
      (iterate 3 ((all_goals try (conv => whnf)); (repeat' first | exact ⟨⟩ | refine And.intro ?_ ?_ | rfl | exact fun _ h => h | exact .inl rfl | exact none_some | exact .inr in4 | fail)))
  try rw [hb3]
  conv => whnf
  repeat' ((first | refine RegP.enter ?_ | refine DrawP.range (by kernel_rfl) ?_ | refine BuildP.frz ⟨rfl, ?_⟩ | refine BoxP.row ?_ | refine And.intro (Nat.succ_pos _) ?_ | fail); conv => whnf)
  refine br (fun hb4 => ?_) (fun hb4 => ?_)
  · have hs2 : sz = 5 + text.size := by simp [GV.kind] at hb hb2 hb3 hb4; rw [← hs]; simp [GV.sz, hb4]
    try rw [hb4]
    conv => whnf
    repeat' ((first | refine RegP.enter ?_ | refine DrawP.range (by kernel_rfl) ?_ | refine BuildP.frz ⟨rfl, ?_⟩ | refine BoxP.row ?_ | refine And.intro (Nat.succ_pos _) ?_ | fail); conv => whnf)
    by_cases h5 : 5 ≤ a
    · refine call_mm [((0,0,0), .old true (0,0,0))] 1 20 (take_yes a 5 h1 (by omega) h5) ?_ ?_ ?_
      · conv => whnf
        (iterate 3 ((all_goals try (conv => whnf)); (repeat' first | exact ⟨⟩ | refine And.intro ?_ ?_ | rfl | exact fun _ h => h | exact .inl rfl | exact none_some | exact .inr in4 | fail)))
      · intro _; conv => whnf
        (iterate 3 ((all_goals try (conv => whnf)); (repeat' first | exact ⟨⟩ | refine And.intro ?_ ?_ | rfl | exact fun _ h => h | exact .inl rfl | exact none_some | exact .inr in4 | fail)))
      intro x; conv => whnf
      refine call_mm [((0,0,0), .old true (0,0,0))] 1 26 (two hs2 h5) ?_ ?_ ?_
      · conv => whnf
        (iterate 3 ((all_goals try (conv => whnf)); (repeat' first | exact ⟨⟩ | refine And.intro ?_ ?_ | rfl | exact fun _ h => h | exact .inl rfl | exact none_some | exact .inr in4 | fail)))
      · intro _; conv => whnf
        (iterate 3 ((all_goals try (conv => whnf)); (repeat' first | exact ⟨⟩ | refine And.intro ?_ ?_ | rfl | exact fun _ h => h | exact .inl rfl | exact none_some | exact .inr in4 | fail)))
      intro x; conv => whnf
      refine ⟨(), _, rfl, Sub.of_check [((0,0,0), .old true (0,0,0))] ?_ (by repeat' first | exact Gen0.emp | exact Gen0.ofH rfl | refine Gen0.put ?_ (by decide) | refine Gen0.put0 ?_ ⟨_, rfl⟩)⟩
      conv => whnf
      (iterate 3 ((all_goals try (conv => whnf)); (repeat' first | exact ⟨⟩ | refine And.intro ?_ ?_ | rfl | exact fun _ h => h | exact .inl rfl | exact none_some | exact .inr in4 | fail)))
    · refine call_mm [((0,0,0), .old true (0,0,0))] 1 20 (take_no a 5 (by omega) h1 (by omega) (by omega)) ?_ ?_ ?_
      · conv => whnf
        (iterate 3 ((all_goals try (conv => whnf)); (repeat' first | exact ⟨⟩ | refine And.intro ?_ ?_ | rfl | exact fun _ h => h | exact .inl rfl | exact none_some | exact .inr in4 | fail)))
      · intro _; conv => whnf
        (iterate 3 ((all_goals try (conv => whnf)); (repeat' first | exact ⟨⟩ | refine And.intro ?_ ?_ | rfl | exact fun _ h => h | exact .inl rfl | exact none_some | exact .inr in4 | fail)))
      intro x; conv => whnf
      obtain ⟨rfl, rfl⟩ := bad (by omega)
      refine ⟨(), _, rfl, Sub.of_check [((0,0,0), .old true (0,0,0))] ?_ (by repeat' first | exact Gen0.emp | exact Gen0.ofH rfl | refine Gen0.put ?_ (by decide) | refine Gen0.put0 ?_ ⟨_, rfl⟩)⟩
      conv => whnf
      (iterate 3 ((all_goals try (conv => whnf)); (repeat' first | exact ⟨⟩ | refine And.intro ?_ ?_ | rfl | exact fun _ h => h | exact .inl rfl | exact none_some | exact .inr in4 | fail)))
  try rw [hb4]
  conv => whnf
  repeat' ((first | refine RegP.enter ?_ | refine DrawP.range (by kernel_rfl) ?_ | refine BuildP.frz ⟨rfl, ?_⟩ | refine BoxP.row ?_ | refine And.intro (Nat.succ_pos _) ?_ | fail); conv => whnf)
  refine br (fun hb5 => ?_) (fun hb5 => ?_)
  · try rw [hb5]
    conv => whnf
    repeat' ((first | refine RegP.enter ?_ | refine DrawP.range (by kernel_rfl) ?_ | refine BuildP.frz ⟨rfl, ?_⟩ | refine BoxP.row ?_ | refine And.intro (Nat.succ_pos _) ?_ | fail); conv => whnf)
    refine call_mm [((0,0,0), .old true (0,0,0))] 1 31 (leaf 12 (by simp [GV.kind] at hb hb2 hb3 hb4 hb5; rw [← hs]; simp [GV.sz, hb5])) ?_ ?_ ?_
    · conv => whnf
      (iterate 3 ((all_goals try (conv => whnf)); (repeat' first | exact ⟨⟩ | refine And.intro ?_ ?_ | rfl | exact fun _ h => h | exact .inl rfl | exact none_some | exact .inr in4 | fail)))
    · intro _; conv => whnf
      (iterate 3 ((all_goals try (conv => whnf)); (repeat' first | exact ⟨⟩ | refine And.intro ?_ ?_ | rfl | exact fun _ h => h | exact .inl rfl | exact none_some | exact .inr in4 | fail)))
    intro x; conv => whnf
    refine ⟨(), _, rfl, Sub.of_check [((0,0,0), .old true (0,0,0))] ?_ (by repeat' first | exact Gen0.emp | exact Gen0.ofH rfl | refine Gen0.put ?_ (by decide) | refine Gen0.put0 ?_ ⟨_, rfl⟩)⟩
    conv => whnf
    (iterate 3 ((all_goals try (conv => whnf)); (repeat' first | exact ⟨⟩ | refine And.intro ?_ ?_ | rfl | exact fun _ h => h | exact .inl rfl | exact none_some | exact .inr in4 | fail)))
  try rw [hb5]
  conv => whnf
  repeat' ((first | refine RegP.enter ?_ | refine DrawP.range (by kernel_rfl) ?_ | refine BuildP.frz ⟨rfl, ?_⟩ | refine BoxP.row ?_ | refine And.intro (Nat.succ_pos _) ?_ | fail); conv => whnf)
  refine br (fun hb6 => ?_) (fun hb6 => ?_)
  · try rw [hb6]
    conv => whnf
    repeat' ((first | refine RegP.enter ?_ | refine DrawP.range (by kernel_rfl) ?_ | refine BuildP.frz ⟨rfl, ?_⟩ | refine BoxP.row ?_ | refine And.intro (Nat.succ_pos _) ?_ | fail); conv => whnf)
    refine call_mm [((0,0,0), .old true (0,0,0))] 1 35 (leaf 1 (by simp [GV.kind] at hb hb2 hb3 hb4 hb5 hb6; rw [← hs]; simp [GV.sz, hb6])) ?_ ?_ ?_
    · conv => whnf
      (iterate 3 ((all_goals try (conv => whnf)); (repeat' first | exact ⟨⟩ | refine And.intro ?_ ?_ | rfl | exact fun _ h => h | exact .inl rfl | exact none_some | exact .inr in4 | fail)))
    · intro _; conv => whnf
      (iterate 3 ((all_goals try (conv => whnf)); (repeat' first | exact ⟨⟩ | refine And.intro ?_ ?_ | rfl | exact fun _ h => h | exact .inl rfl | exact none_some | exact .inr in4 | fail)))
    intro x; conv => whnf
    refine ⟨(), _, rfl, Sub.of_check [((0,0,0), .old true (0,0,0))] ?_ (by repeat' first | exact Gen0.emp | exact Gen0.ofH rfl | refine Gen0.put ?_ (by decide) | refine Gen0.put0 ?_ ⟨_, rfl⟩)⟩
    conv => whnf
    (iterate 3 ((all_goals try (conv => whnf)); (repeat' first | exact ⟨⟩ | refine And.intro ?_ ?_ | rfl | exact fun _ h => h | exact .inl rfl | exact none_some | exact .inr in4 | fail)))
  try rw [hb6]
  conv => whnf
  repeat' ((first | refine RegP.enter ?_ | refine DrawP.range (by kernel_rfl) ?_ | refine BuildP.frz ⟨rfl, ?_⟩ | refine BoxP.row ?_ | refine And.intro (Nat.succ_pos _) ?_ | fail); conv => whnf)
  refine br (fun hb7 => ?_) (fun hb7 => ?_)
  · have hs2 : sz = 5 + szD doc := by simp [GV.kind] at hb hb2 hb3 hb4 hb5 hb6 hb7; rw [← hs]; simp [GV.sz, hb7]
    try rw [hb7]
    conv => whnf
    repeat' ((first | refine RegP.enter ?_ | refine DrawP.range (by kernel_rfl) ?_ | refine BuildP.frz ⟨rfl, ?_⟩ | refine BoxP.row ?_ | refine And.intro (Nat.succ_pos _) ?_ | fail); conv => whnf)
    by_cases h5 : 5 ≤ a
    rotate_left
    · refine call_mm [((0,0,0), .old true (0,0,0))] 1 39 (take_no a 5 (by omega) h1 (by omega) (by omega)) ?_ ?_ ?_
      · conv => whnf
        (iterate 3 ((all_goals try (conv => whnf)); (repeat' first | exact ⟨⟩ | refine And.intro ?_ ?_ | rfl | exact fun _ h => h | exact .inl rfl | exact none_some | exact .inr in4 | fail)))
      · intro _; conv => whnf
        (iterate 3 ((all_goals try (conv => whnf)); (repeat' first | exact ⟨⟩ | refine And.intro ?_ ?_ | rfl | exact fun _ h => h | exact .inl rfl | exact none_some | exact .inr in4 | fail)))
      intro x; conv => whnf
      obtain ⟨rfl, rfl⟩ := bad (by omega)
      repeat' ((first | refine RegP.enter ?_ | refine DrawP.range (by kernel_rfl) ?_ | refine BuildP.frz ⟨rfl, ?_⟩ | refine BoxP.row ?_ | refine And.intro (Nat.succ_pos _) ?_ | fail); conv => whnf)
      refine ⟨(), _, rfl, Sub.of_check [((0,0,0), .old true (0,0,0))] ?_ (by repeat' first | exact Gen0.emp | exact Gen0.ofH rfl | refine Gen0.put ?_ (by decide) | refine Gen0.put0 ?_ ⟨_, rfl⟩)⟩
      conv => whnf
      (iterate 3 ((all_goals try (conv => whnf)); (repeat' first | exact ⟨⟩ | refine And.intro ?_ ?_ | rfl | exact fun _ h => h | exact .inl rfl | exact none_some | exact .inr in4 | fail)))
    refine call_mm [((0,0,0), .old true (0,0,0))] 1 39 (take_yes a 5 h1 (by omega) h5) ?_ ?_ ?_
    · conv => whnf
      (iterate 3 ((all_goals try (conv => whnf)); (repeat' first | exact ⟨⟩ | refine And.intro ?_ ?_ | rfl | exact fun _ h => h | exact .inl rfl | exact none_some | exact .inr in4 | fail)))
    · intro _; conv => whnf
      (iterate 3 ((all_goals try (conv => whnf)); (repeat' first | exact ⟨⟩ | refine And.intro ?_ ?_ | rfl | exact fun _ h => h | exact .inl rfl | exact none_some | exact .inr in4 | fail)))
    intro x; conv => whnf
    repeat' ((first | refine RegP.enter ?_ | refine DrawP.range (by kernel_rfl) ?_ | refine BuildP.frz ⟨rfl, ?_⟩ | refine BoxP.row ?_ | refine And.intro (Nat.succ_pos _) ?_ | fail); conv => whnf)
    refine ⟨2, {i : Nat // i ≤ doc.length ∧ (5 + szD (doc.take i) : Int) ≤ a}, fun i => ([(0, .ptr (0,0,0) 0 0), (42, .lz (.gd doc)), (43, .int doc.length), (44, .int i.1)], [((0,0,0), .cells 1 8 [[.int (a - (5 + szD (doc.take i.1)))]])]), fun i => doc.length - i.1, ⟨⟨0, Nat.zero_le _, by simp [szD]; omega⟩, Sub.of_check [((0,0,0), .old true (0,0,0))] ?_ (by repeat' first | exact Gen0.emp | exact Gen0.ofH rfl | refine Gen0.put ?_ (by decide) | refine Gen0.put0 ?_ ⟨_, rfl⟩)⟩, fun ⟨i, hi, hia⟩ => ?_⟩
    · conv => whnf
      (iterate 3 ((all_goals try (conv => whnf)); (repeat' first | exact ⟨⟩ | refine And.intro ?_ ?_ | rfl | exact fun _ h => h | exact .inl rfl | exact none_some | exact .inr in4 | fail)))
    conv => whnf
    refine RegP.go fun hf => ?_
    conv => whnf
    refine br (fun hl => ?_) (fun hl => ?_)
    rotate_left
    · have hge : i = doc.length := by
        have : ¬ i < doc.length := by simpa using hl
        omega
      try rw [hl]
      conv => whnf
      repeat' ((first | refine RegP.enter ?_ | refine DrawP.range (by kernel_rfl) ?_ | refine BuildP.frz ⟨rfl, ?_⟩ | refine BoxP.row ?_ | refine And.intro (Nat.succ_pos _) ?_ | fail); conv => whnf)
      rw [hge, List.take_length] at hia
      obtain ⟨rfl, rfl⟩ := good (by omega)
      refine ⟨(), _, rfl, Sub.of_check [((0,0,0), .old true (0,0,0))] ?_ (by repeat' first | exact Gen0.emp | exact Gen0.ofH rfl | refine Gen0.put ?_ (by decide) | refine Gen0.put0 ?_ ⟨_, rfl⟩)⟩
      conv => whnf
      (iterate 3 ((all_goals try (conv => whnf)); (repeat' first | exact ⟨⟩ | refine And.intro ?_ ?_ | rfl | exact fun _ h => h | exact .inl rfl | exact none_some | exact .inr in4 | fail)))
      show a - (5 + (szD (doc.take i) : Int)) = a - sz
      rw [hge, List.take_length]; omega
    have hlt : i < doc.length := by simpa using hl
    have hsz := szD_succ hlt
    have hle := szD_le doc (i + 1)
    have hR := le_of_mul (k := 95) (hf.lz 42 _ _ _ _ _ _ rfl rfl)
    try rw [hl]
    conv => whnf
    refine RegP.enter ?_
    conv => whnf
    refine And.intro (hlt) ?_
    conv => whnf
    refine And.intro (hlt) ?_
    conv => whnf
    repeat' ((first | refine RegP.enter ?_ | refine DrawP.range (by kernel_rfl) ?_ | refine BuildP.frz ⟨rfl, ?_⟩ | refine BoxP.row ?_ | refine And.intro (Nat.succ_pos _) ?_ | fail); conv => whnf)
    by_cases c1 : 2 ≤ a - (5 + (szD (doc.take i) : Int))
    rotate_left
    · refine call_mm [((0,0,0), .old true (0,0,0))] 2 49 (take_no (a - (5 + (szD (doc.take i) : Int))) 2 (by omega) (by omega) (by omega) (by omega)) ?_ ?_ ?_
      · conv => whnf
        (iterate 3 ((all_goals try (conv => whnf)); (repeat' first | exact ⟨⟩ | refine And.intro ?_ ?_ | rfl | exact fun _ h => h | exact .inl rfl | exact none_some | exact .inr in4 | fail)))
      · intro _; conv => whnf
        (iterate 3 ((all_goals try (conv => whnf)); (repeat' first | exact ⟨⟩ | refine And.intro ?_ ?_ | rfl | exact fun _ h => h | exact .inl rfl | exact none_some | exact .inr in4 | fail)))
      intro x; conv => whnf
      obtain ⟨rfl, rfl⟩ := bad (by omega)
      repeat' ((first | refine RegP.enter ?_ | refine DrawP.range (by kernel_rfl) ?_ | refine BuildP.frz ⟨rfl, ?_⟩ | refine BoxP.row ?_ | refine And.intro (Nat.succ_pos _) ?_ | fail); conv => whnf)
      refine ⟨(), _, rfl, Sub.of_check [((0,0,0), .old true (0,0,0))] ?_ (by repeat' first | exact Gen0.emp | exact Gen0.ofH rfl | refine Gen0.put ?_ (by decide) | refine Gen0.put0 ?_ ⟨_, rfl⟩)⟩
      conv => whnf
      (iterate 3 ((all_goals try (conv => whnf)); (repeat' first | exact ⟨⟩ | refine And.intro ?_ ?_ | rfl | exact fun _ h => h | exact .inl rfl | exact none_some | exact .inr in4 | fail)))
    refine call_mm [((0,0,0), .old true (0,0,0))] 2 49 (take_yes (a - (5 + (szD (doc.take i) : Int))) 2 (by omega) (by omega) c1) ?_ ?_ ?_
    · conv => whnf
      (iterate 3 ((all_goals try (conv => whnf)); (repeat' first | exact ⟨⟩ | refine And.intro ?_ ?_ | rfl | exact fun _ h => h | exact .inl rfl | exact none_some | exact .inr in4 | fail)))
    · intro _; conv => whnf
      (iterate 3 ((all_goals try (conv => whnf)); (repeat' first | exact ⟨⟩ | refine And.intro ?_ ?_ | rfl | exact fun _ h => h | exact .inl rfl | exact none_some | exact .inr in4 | fail)))
    intro x; conv => whnf
    by_cases c2 : ((doc.getD i default).1.size : Int) ≤ a - (5 + (szD (doc.take i) : Int)) - 2
    rotate_left
    · refine call_mm [((0,0,0), .old true (0,0,0))] 2 56 (take_no (a - (5 + (szD (doc.take i) : Int)) - 2) ((doc.getD i default).1.size : Int) (by omega) (by omega) (by omega) (by omega)) ?_ ?_ ?_
      · conv => whnf
        (iterate 3 ((all_goals try (conv => whnf)); (repeat' first | exact ⟨⟩ | refine And.intro ?_ ?_ | rfl | exact fun _ h => h | exact .inl rfl | exact none_some | exact .inr in4 | fail)))
      · intro _; conv => whnf
        (iterate 3 ((all_goals try (conv => whnf)); (repeat' first | exact ⟨⟩ | refine And.intro ?_ ?_ | rfl | exact fun _ h => h | exact .inl rfl | exact none_some | exact .inr in4 | fail)))
      intro x; conv => whnf
      obtain ⟨rfl, rfl⟩ := bad (by omega)
      repeat' ((first | refine RegP.enter ?_ | refine DrawP.range (by kernel_rfl) ?_ | refine BuildP.frz ⟨rfl, ?_⟩ | refine BoxP.row ?_ | refine And.intro (Nat.succ_pos _) ?_ | fail); conv => whnf)
      refine ⟨(), _, rfl, Sub.of_check [((0,0,0), .old true (0,0,0))] ?_ (by repeat' first | exact Gen0.emp | exact Gen0.ofH rfl | refine Gen0.put ?_ (by decide) | refine Gen0.put0 ?_ ⟨_, rfl⟩)⟩
      conv => whnf
      (iterate 3 ((all_goals try (conv => whnf)); (repeat' first | exact ⟨⟩ | refine And.intro ?_ ?_ | rfl | exact fun _ h => h | exact .inl rfl | exact none_some | exact .inr in4 | fail)))
    refine call_mm [((0,0,0), .old true (0,0,0))] 2 56 (take_yes (a - (5 + (szD (doc.take i) : Int)) - 2) ((doc.getD i default).1.size : Int) (by omega) (by omega) c2) ?_ ?_ ?_
    · conv => whnf
      (iterate 3 ((all_goals try (conv => whnf)); (repeat' first | exact ⟨⟩ | refine And.intro ?_ ?_ | rfl | exact fun _ h => h | exact .inl rfl | exact none_some | exact .inr in4 | fail)))
    · intro _; conv => whnf
      (iterate 3 ((all_goals try (conv => whnf)); (repeat' first | exact ⟨⟩ | refine And.intro ?_ ?_ | rfl | exact fun _ h => h | exact .inl rfl | exact none_some | exact .inr in4 | fail)))
    intro x; conv => whnf
    have hmem : doc.getD i default ∈ doc := by simp [hlt]
    have hsm := GV.sizeOf_doc (k := kind) (n := int) (t := text) (l := list) hmem
    by_cases c3 : (((doc.getD i default).2.sz : Nat) : Int) ≤ a - (5 + (szD (doc.take i) : Int)) - 2 - ((doc.getD i default).1.size : Int)
    rotate_left
    · refine call_mm [((0,0,0), .old true (0,0,0))] 2 63 (ih (doc.getD i default).2 (by omega) (a - (5 + (szD (doc.take i) : Int)) - 2 - ((doc.getD i default).1.size : Int)) (by omega) (by omega) (.no (by omega))) ?_ ?_ ?_
      · conv => whnf
        (iterate 3 ((all_goals try (conv => whnf)); (repeat' first | exact ⟨⟩ | refine And.intro ?_ ?_ | rfl | exact fun _ h => h | exact .inl rfl | exact none_some | exact .inr in4 | fail)))
      · intro _; conv => whnf
        (iterate 3 ((all_goals try (conv => whnf)); (repeat' first | exact ⟨⟩ | refine And.intro ?_ ?_ | rfl | exact fun _ h => h | exact .inl rfl | exact none_some | exact .inr in4 | fail)))
      intro x; conv => whnf
      obtain ⟨rfl, rfl⟩ := bad (by omega)
      repeat' ((first | refine RegP.enter ?_ | refine DrawP.range (by kernel_rfl) ?_ | refine BuildP.frz ⟨rfl, ?_⟩ | refine BoxP.row ?_ | refine And.intro (Nat.succ_pos _) ?_ | fail); conv => whnf)
      refine ⟨(), _, rfl, Sub.of_check [((0,0,0), .old true (0,0,0))] ?_ (by repeat' first | exact Gen0.emp | exact Gen0.ofH rfl | refine Gen0.put ?_ (by decide) | refine Gen0.put0 ?_ ⟨_, rfl⟩)⟩
      conv => whnf
      (iterate 3 ((all_goals try (conv => whnf)); (repeat' first | exact ⟨⟩ | refine And.intro ?_ ?_ | rfl | exact fun _ h => h | exact .inl rfl | exact none_some | exact .inr in4 | fail)))
    refine call_mm [((0,0,0), .old true (0,0,0))] 2 63 (ih (doc.getD i default).2 (by omega) (a - (5 + (szD (doc.take i) : Int)) - 2 - ((doc.getD i default).1.size : Int)) (by omega) (by omega) (.yes c3)) ?_ ?_ ?_
    · conv => whnf
      (iterate 3 ((all_goals try (conv => whnf)); (repeat' first | exact ⟨⟩ | refine And.intro ?_ ?_ | rfl | exact fun _ h => h | exact .inl rfl | exact none_some | exact .inr in4 | fail)))
    · intro _; conv => whnf
      (iterate 3 ((all_goals try (conv => whnf)); (repeat' first | exact ⟨⟩ | refine And.intro ?_ ?_ | rfl | exact fun _ h => h | exact .inl rfl | exact none_some | exact .inr in4 | fail)))
    intro x; conv => whnf
    repeat' ((first | refine RegP.enter ?_ | refine DrawP.range (by kernel_rfl) ?_ | refine BuildP.frz ⟨rfl, ?_⟩ | refine BoxP.row ?_ | refine And.intro (Nat.succ_pos _) ?_ | fail); conv => whnf)
    refine ⟨⟨i + 1, hlt, by omega⟩, (by show doc.length - (i + 1) < doc.length - i; omega), Sub.of_check [((0,0,0), .old true (0,0,0))] ?_ (by repeat' first | exact Gen0.emp | exact Gen0.ofH rfl | refine Gen0.put ?_ (by decide) | refine Gen0.put0 ?_ ⟨_, rfl⟩)⟩
    conv => whnf
    (iterate 3 ((all_goals try (conv => whnf)); (repeat' first | exact ⟨⟩ | refine And.intro ?_ ?_ | rfl | exact fun _ h => h | exact .inl rfl | exact none_some | exact .inr in4 | fail)))
    all_goals first | exact wrap_succ hlt hR | (show _ = a - (5 + (szD (doc.take (i + 1)) : Int)); omega)
  try rw [hb7]
  conv => whnf
  repeat' ((first | refine RegP.enter ?_ | refine DrawP.range (by kernel_rfl) ?_ | refine BuildP.frz ⟨rfl, ?_⟩ | refine BoxP.row ?_ | refine And.intro (Nat.succ_pos _) ?_ | fail); conv => whnf)
  refine br (fun hb8 => ?_) (fun hb8 => ?_)
  · have hs2 : sz = 5 + szL 0 list := by simp [GV.kind] at hb hb2 hb3 hb4 hb5 hb6 hb7 hb8; rw [← hs]; simp [GV.sz, hb8]
    try rw [hb8]
    conv => whnf
    repeat' ((first | refine RegP.enter ?_ | refine DrawP.range (by kernel_rfl) ?_ | refine BuildP.frz ⟨rfl, ?_⟩ | refine BoxP.row ?_ | refine And.intro (Nat.succ_pos _) ?_ | fail); conv => whnf)
    by_cases h5 : 5 ≤ a
    rotate_left
    · refine call_mm [((0,0,0), .old true (0,0,0))] 1 70 (take_no a 5 (by omega) h1 (by omega) (by omega)) ?_ ?_ ?_
      · conv => whnf
        (iterate 3 ((all_goals try (conv => whnf)); (repeat' first | exact ⟨⟩ | refine And.intro ?_ ?_ | rfl | exact fun _ h => h | exact .inl rfl | exact none_some | exact .inr in4 | fail)))
      · intro _; conv => whnf
        (iterate 3 ((all_goals try (conv => whnf)); (repeat' first | exact ⟨⟩ | refine And.intro ?_ ?_ | rfl | exact fun _ h => h | exact .inl rfl | exact none_some | exact .inr in4 | fail)))
      intro x; conv => whnf
      obtain ⟨rfl, rfl⟩ := bad (by omega)
      repeat' ((first | refine RegP.enter ?_ | refine DrawP.range (by kernel_rfl) ?_ | refine BuildP.frz ⟨rfl, ?_⟩ | refine BoxP.row ?_ | refine And.intro (Nat.succ_pos _) ?_ | fail); conv => whnf)
      refine ⟨(), _, rfl, Sub.of_check [((0,0,0), .old true (0,0,0))] ?_ (by repeat' first | exact Gen0.emp | exact Gen0.ofH rfl | refine Gen0.put ?_ (by decide) | refine Gen0.put0 ?_ ⟨_, rfl⟩)⟩
      conv => whnf
      (iterate 3 ((all_goals try (conv => whnf)); (repeat' first | exact ⟨⟩ | refine And.intro ?_ ?_ | rfl | exact fun _ h => h | exact .inl rfl | exact none_some | exact .inr in4 | fail)))
    refine call_mm [((0,0,0), .old true (0,0,0))] 1 70 (take_yes a 5 h1 (by omega) h5) ?_ ?_ ?_
    · conv => whnf
      (iterate 3 ((all_goals try (conv => whnf)); (repeat' first | exact ⟨⟩ | refine And.intro ?_ ?_ | rfl | exact fun _ h => h | exact .inl rfl | exact none_some | exact .inr in4 | fail)))
    · intro _; conv => whnf
      (iterate 3 ((all_goals try (conv => whnf)); (repeat' first | exact ⟨⟩ | refine And.intro ?_ ?_ | rfl | exact fun _ h => h | exact .inl rfl | exact none_some | exact .inr in4 | fail)))
    intro x; conv => whnf
    repeat' ((first | refine RegP.enter ?_ | refine DrawP.range (by kernel_rfl) ?_ | refine BuildP.frz ⟨rfl, ?_⟩ | refine BoxP.row ?_ | refine And.intro (Nat.succ_pos _) ?_ | fail); conv => whnf)
    refine ⟨2, {i : Nat // i ≤ list.length ∧ (5 + szL 0 (list.take i) : Int) ≤ a}, fun i => ([(0, .ptr (0,0,0) 0 0), (73, .lz (.gl list)), (74, .int list.length), (75, .int i.1)], [((0,0,0), .cells 1 8 [[.int (a - (5 + szL 0 (list.take i.1)))]])]), fun i => list.length - i.1, ⟨⟨0, Nat.zero_le _, by simp [szL]; omega⟩, Sub.of_check [((0,0,0), .old true (0,0,0))] ?_ (by repeat' first | exact Gen0.emp | exact Gen0.ofH rfl | refine Gen0.put ?_ (by decide) | refine Gen0.put0 ?_ ⟨_, rfl⟩)⟩, fun ⟨i, hi, hia⟩ => ?_⟩
    · conv => whnf
      (iterate 3 ((all_goals try (conv => whnf)); (repeat' first | exact ⟨⟩ | refine And.intro ?_ ?_ | rfl | exact fun _ h => h | exact .inl rfl | exact none_some | exact .inr in4 | fail)))
    conv => whnf
    refine RegP.go fun hf => ?_
    conv => whnf
    refine br (fun hl => ?_) (fun hl => ?_)
    rotate_left
    · have hge : i = list.length := by
        have : ¬ i < list.length := by simpa using hl
        omega
      try rw [hl]
      conv => whnf
      repeat' ((first | refine RegP.enter ?_ | refine DrawP.range (by kernel_rfl) ?_ | refine BuildP.frz ⟨rfl, ?_⟩ | refine BoxP.row ?_ | refine And.intro (Nat.succ_pos _) ?_ | fail); conv => whnf)
      rw [hge, List.take_length] at hia
      obtain ⟨rfl, rfl⟩ := good (by omega)
      refine ⟨(), _, rfl, Sub.of_check [((0,0,0), .old true (0,0,0))] ?_ (by repeat' first | exact Gen0.emp | exact Gen0.ofH rfl | refine Gen0.put ?_ (by decide) | refine Gen0.put0 ?_ ⟨_, rfl⟩)⟩
      conv => whnf
      (iterate 3 ((all_goals try (conv => whnf)); (repeat' first | exact ⟨⟩ | refine And.intro ?_ ?_ | rfl | exact fun _ h => h | exact .inl rfl | exact none_some | exact .inr in4 | fail)))
      show a - (5 + (szL 0 (list.take i) : Int)) = a - sz
      rw [hge, List.take_length]; omega
    have hlt : i < list.length := by simpa using hl
    have hsz := szL_succ hlt
    have hle := szL_le list (i + 1)
    have hR := le_of_mul (k := 79) (hf.lz 73 _ _ _ _ _ _ rfl rfl)
    have hR2 : R = 140737488355328 := rfl
    have hil := Lib.itoa_length_le (i : Int) (by omega) (by omega)
    try rw [hl]
    conv => whnf
    refine RegP.enter ?_
    conv => whnf
    refine And.intro (hlt) ?_
    conv => whnf
    refine And.intro (hlt) ?_
    conv => whnf
    repeat' ((first | refine RegP.enter ?_ | refine DrawP.range (by kernel_rfl) ?_ | refine BuildP.frz ⟨rfl, ?_⟩ | refine BoxP.row ?_ | refine And.intro (Nat.succ_pos _) ?_ | fail); conv => whnf)
    refine call_same (itoa_ok (i : Int) (by omega) (by omega)) rfl ?_
    conv => whnf
    by_cases c1 : 2 + ((Lib.itoa (i : Int)).length : Int) ≤ a - (5 + (szL 0 (list.take i) : Int))
    rotate_left
    · refine call_mm [((0,0,0), .old true (0,0,0))] 2 85 (take_no (a - (5 + (szL 0 (list.take i) : Int))) (2 + ((Lib.itoa (i : Int)).length : Int)) (by omega) (by omega) (by omega) (by omega)) ?_ ?_ ?_
      · conv => whnf
        (iterate 3 ((all_goals try (conv => whnf)); (repeat' first | exact ⟨⟩ | refine And.intro ?_ ?_ | rfl | exact fun _ h => h | exact .inl rfl | exact none_some | exact .inr in4 | fail)))
        all_goals exact wrap64 (show -9223372036854775808 ≤ 2 + ((Lib.itoa (i : Int)).length : Int) by omega) (show 2 + ((Lib.itoa (i : Int)).length : Int) < 9223372036854775808 by omega)
      · intro _; conv => whnf
        (iterate 3 ((all_goals try (conv => whnf)); (repeat' first | exact ⟨⟩ | refine And.intro ?_ ?_ | rfl | exact fun _ h => h | exact .inl rfl | exact none_some | exact .inr in4 | fail)))
      intro x; conv => whnf
      obtain ⟨rfl, rfl⟩ := bad (by omega)
      repeat' ((first | refine RegP.enter ?_ | refine DrawP.range (by kernel_rfl) ?_ | refine BuildP.frz ⟨rfl, ?_⟩ | refine BoxP.row ?_ | refine And.intro (Nat.succ_pos _) ?_ | fail); conv => whnf)
      refine ⟨(), _, rfl, Sub.of_check [((0,0,0), .old true (0,0,0))] ?_ (by repeat' first | exact Gen0.emp | exact Gen0.ofH rfl | refine Gen0.put ?_ (by decide) | refine Gen0.put0 ?_ ⟨_, rfl⟩)⟩
      conv => whnf
      (iterate 3 ((all_goals try (conv => whnf)); (repeat' first | exact ⟨⟩ | refine And.intro ?_ ?_ | rfl | exact fun _ h => h | exact .inl rfl | exact none_some | exact .inr in4 | fail)))
    refine call_mm [((0,0,0), .old true (0,0,0))] 2 85 (take_yes (a - (5 + (szL 0 (list.take i) : Int))) (2 + ((Lib.itoa (i : Int)).length : Int)) (by omega) (by omega) c1) ?_ ?_ ?_
    · conv => whnf
      (iterate 3 ((all_goals try (conv => whnf)); (repeat' first | exact ⟨⟩ | refine And.intro ?_ ?_ | rfl | exact fun _ h => h | exact .inl rfl | exact none_some | exact .inr in4 | fail)))
      all_goals exact wrap64 (show -9223372036854775808 ≤ 2 + ((Lib.itoa (i : Int)).length : Int) by omega) (show 2 + ((Lib.itoa (i : Int)).length : Int) < 9223372036854775808 by omega)
    · intro _; conv => whnf
      (iterate 3 ((all_goals try (conv => whnf)); (repeat' first | exact ⟨⟩ | refine And.intro ?_ ?_ | rfl | exact fun _ h => h | exact .inl rfl | exact none_some | exact .inr in4 | fail)))
    intro x; conv => whnf
    have hmem : list.getD i default ∈ list := by simp [hlt]
    have hsm := GV.sizeOf_list (k := kind) (n := int) (t := text) (d := doc) hmem
    by_cases c3 : (((list.getD i default).sz : Nat) : Int) ≤ a - (5 + (szL 0 (list.take i) : Int)) - (2 + ((Lib.itoa (i : Int)).length : Int))
    rotate_left
    · refine call_mm [((0,0,0), .old true (0,0,0))] 2 90 (ih (list.getD i default) (by omega) (a - (5 + (szL 0 (list.take i) : Int)) - (2 + ((Lib.itoa (i : Int)).length : Int))) (by omega) (by omega) (.no (by omega))) ?_ ?_ ?_
      · conv => whnf
        (iterate 3 ((all_goals try (conv => whnf)); (repeat' first | exact ⟨⟩ | refine And.intro ?_ ?_ | rfl | exact fun _ h => h | exact .inl rfl | exact none_some | exact .inr in4 | fail)))
      · intro _; conv => whnf
        (iterate 3 ((all_goals try (conv => whnf)); (repeat' first | exact ⟨⟩ | refine And.intro ?_ ?_ | rfl | exact fun _ h => h | exact .inl rfl | exact none_some | exact .inr in4 | fail)))
      intro x; conv => whnf
      obtain ⟨rfl, rfl⟩ := bad (by omega)
      repeat' ((first | refine RegP.enter ?_ | refine DrawP.range (by kernel_rfl) ?_ | refine BuildP.frz ⟨rfl, ?_⟩ | refine BoxP.row ?_ | refine And.intro (Nat.succ_pos _) ?_ | fail); conv => whnf)
      refine ⟨(), _, rfl, Sub.of_check [((0,0,0), .old true (0,0,0))] ?_ (by repeat' first | exact Gen0.emp | exact Gen0.ofH rfl | refine Gen0.put ?_ (by decide) | refine Gen0.put0 ?_ ⟨_, rfl⟩)⟩
      conv => whnf
      (iterate 3 ((all_goals try (conv => whnf)); (repeat' first | exact ⟨⟩ | refine And.intro ?_ ?_ | rfl | exact fun _ h => h | exact .inl rfl | exact none_some | exact .inr in4 | fail)))
    refine call_mm [((0,0,0), .old true (0,0,0))] 2 90 (ih (list.getD i default) (by omega) (a - (5 + (szL 0 (list.take i) : Int)) - (2 + ((Lib.itoa (i : Int)).length : Int))) (by omega) (by omega) (.yes c3)) ?_ ?_ ?_
    · conv => whnf
      (iterate 3 ((all_goals try (conv => whnf)); (repeat' first | exact ⟨⟩ | refine And.intro ?_ ?_ | rfl | exact fun _ h => h | exact .inl rfl | exact none_some | exact .inr in4 | fail)))
    · intro _; conv => whnf
      (iterate 3 ((all_goals try (conv => whnf)); (repeat' first | exact ⟨⟩ | refine And.intro ?_ ?_ | rfl | exact fun _ h => h | exact .inl rfl | exact none_some | exact .inr in4 | fail)))
    intro x; conv => whnf
    repeat' ((first | refine RegP.enter ?_ | refine DrawP.range (by kernel_rfl) ?_ | refine BuildP.frz ⟨rfl, ?_⟩ | refine BoxP.row ?_ | refine And.intro (Nat.succ_pos _) ?_ | fail); conv => whnf)
    refine ⟨⟨i + 1, hlt, by omega⟩, (by show list.length - (i + 1) < list.length - i; omega), Sub.of_check [((0,0,0), .old true (0,0,0))] ?_ (by repeat' first | exact Gen0.emp | exact Gen0.ofH rfl | refine Gen0.put ?_ (by decide) | refine Gen0.put0 ?_ ⟨_, rfl⟩)⟩
    conv => whnf
    (iterate 3 ((all_goals try (conv => whnf)); (repeat' first | exact ⟨⟩ | refine And.intro ?_ ?_ | rfl | exact fun _ h => h | exact .inl rfl | exact none_some | exact .inr in4 | fail)))
    all_goals first | exact wrap_succ hlt hR | (show _ = a - (5 + (szL 0 (list.take (i + 1)) : Int)); omega)
  try rw [hb8]
  conv => whnf
  repeat' ((first | refine RegP.enter ?_ | refine DrawP.range (by kernel_rfl) ?_ | refine BuildP.frz ⟨rfl, ?_⟩ | refine BoxP.row ?_ | refine And.intro (Nat.succ_pos _) ?_ | fail); conv => whnf)
  have hs0 : sz = 0 := by simp [GV.kind] at hb hb2 hb3 hb4 hb5 hb6 hb7 hb8; rw [← hs]; simp [GV.sz, hb, hb2, hb3, hb4, hb5, hb6, hb7, hb8]
  obtain ⟨rfl, rfl⟩ := good (by omega)
  refine ⟨(), _, rfl, Sub.of_check [((0,0,0), .old true (0,0,0))] ?_ (by repeat' first | exact Gen0.emp | exact Gen0.ofH rfl | refine Gen0.put ?_ (by decide) | refine Gen0.put0 ?_ ⟨_, rfl⟩)⟩
  conv => whnf
  (iterate 3 ((all_goals try (conv => whnf)); (repeat' first | exact ⟨⟩ | refine And.intro ?_ ?_ | rfl | exact fun _ h => h | exact .inl rfl | exact none_some | exact .inr in4 | fail)))
  omega
end Go.Eng
namespace Go.Eng
open Go.Proofs
set_option maxRecDepth 10000
theorem weigh_ok (g : GV) (a : Int) (h0 : 0 ≤ a) (h1 : a ≤ 65536) {b : Bool} {r : Int} (hr : WR a g.sz b r) :
    MSpec cxA 129 [.ptr (0,0,0) 0 0, .agg g.cells] [((0,0,0), .cells 1 8 [[.int a]])] (fun _ : Unit => .ret (.bool b)) (fun _ => [((0,0,0), .cells 1 8 [[.int r]])]) := weigh_spec _ g (Nat.lt_succ_self _) a h0 h1 hr
theorem size_ok (g : GV) : PSpec cxA 67 [.agg g.cells] (.ret (.int (sizeM g))) := by
  refine PSpec.of_WC cxA_ok Tryz.func67 rfl Tryz.call67 (Nat.le_of_ble_eq_true rfl) (g := 1) ?_
  conv => whnf
  repeat' ((first | refine RegP.enter ?_ | refine DrawP.range (by kernel_rfl) ?_ | refine BuildP.frz ⟨rfl, ?_⟩ | refine BoxP.row ?_ | refine And.intro (Nat.succ_pos _) ?_ | fail); conv => whnf)
  by_cases h : (g.sz : Int) ≤ 65536
  · refine call_mm [((0,0,0), .old true (1,5,0))] 1 8 (weigh_ok g 65536 (by omega) (by omega) (.yes h)) ?_ ?_ ?_
    · conv => whnf
      (iterate 3 ((all_goals try (conv => whnf)); (repeat' first | exact ⟨⟩ | refine And.intro ?_ ?_ | rfl | exact fun _ h => h | exact .inl rfl | exact none_some | exact .inr in4 | fail)))
    · intro _; conv => whnf
      (iterate 3 ((all_goals try (conv => whnf)); (repeat' first | exact ⟨⟩ | refine And.intro ?_ ?_ | rfl | exact fun _ h => h | exact .inl rfl | exact none_some | exact .inr in4 | fail)))
    intro x; conv => whnf
    repeat' ((first | refine RegP.enter ?_ | refine DrawP.range (by kernel_rfl) ?_ | refine BuildP.frz ⟨rfl, ?_⟩ | refine BoxP.row ?_ | refine And.intro (Nat.succ_pos _) ?_ | fail); conv => whnf)
    refine Ent.of_check ?_ rfl
    conv => whnf
    (iterate 3 ((all_goals try (conv => whnf)); (repeat' first | exact ⟨⟩ | refine And.intro ?_ ?_ | rfl | exact fun _ h => h | exact .inl rfl | exact none_some | exact .inr in4 | fail)))
    unfold sizeM
    rw [if_pos (by omega), wrap64 (by omega) (by omega)]; omega
  · refine call_mm [((0,0,0), .old true (1,5,0))] 1 8 (weigh_ok g 65536 (by omega) (by omega) (.no (by omega))) ?_ ?_ ?_
    · conv => whnf
      (iterate 3 ((all_goals try (conv => whnf)); (repeat' first | exact ⟨⟩ | refine And.intro ?_ ?_ | rfl | exact fun _ h => h | exact .inl rfl | exact none_some | exact .inr in4 | fail)))
    · intro _; conv => whnf
      (iterate 3 ((all_goals try (conv => whnf)); (repeat' first | exact ⟨⟩ | refine And.intro ?_ ?_ | rfl | exact fun _ h => h | exact .inl rfl | exact none_some | exact .inr in4 | fail)))
    intro x; conv => whnf
    repeat' ((first | refine RegP.enter ?_ | refine DrawP.range (by kernel_rfl) ?_ | refine BuildP.frz ⟨rfl, ?_⟩ | refine BoxP.row ?_ | refine And.intro (Nat.succ_pos _) ?_ | fail); conv => whnf)
    refine Ent.of_check ?_ rfl
    conv => whnf
    (iterate 3 ((all_goals try (conv => whnf)); (repeat' first | exact ⟨⟩ | refine And.intro ?_ ?_ | rfl | exact fun _ h => h | exact .inl rfl | exact none_some | exact .inr in4 | fail)))
    unfold sizeM
    rw [if_neg (by omega)]
set_option maxHeartbeats 4000000 in
theorem wrong_ok (g : GV) : PSpec cxA 130 [.agg g.cells] (.ret (.bool (wrongM g))) := by
  obtain ⟨kind, int, text, list, doc⟩ := g
  refine PSpec.of_WC cxA_ok Tryz.func130 rfl Tryz.call130 (Nat.le_of_ble_eq_true rfl) (g := 1) ?_
  conv => whnf
  repeat' first | (refine RegP.enter ?_; conv => whnf) | (refine DrawP.range (by kernel_rfl) ?_; conv => whnf) | (refine BuildP.frz ⟨rfl, ?_⟩; conv => whnf) | (refine BoxP.row ?_; conv => whnf) | (refine And.intro Nat.zero_lt_one ?_; conv => whnf) | (refine And.intro (Nat.succ_pos _) ?_; conv => whnf) | (refine call_same (valid_ok _) rfl ?_; conv => whnf) | (refine br (fun hb => ?_) (fun hb => ?_) <;> (try rw [hb]) <;> (conv => whnf)) | fail
  all_goals (refine Ent.of_check ?_ rfl)
  all_goals (conv => whnf)
  (iterate 3 ((all_goals try (conv => whnf)); (repeat' first | exact ⟨⟩ | refine And.intro ?_ ?_ | rfl | exact fun _ h => h | exact .inl rfl | exact none_some | exact .inr in4 | fail)))
  all_goals (try simp only [Bool.not_eq_true', Bool.not_eq_false', dT, dF] at *)
  all_goals (cases list <;> cases doc <;> simp_all [dT, dF, wrongM, GV.kind, GV.int, GV.text, GV.list, GV.doc])
  all_goals omega
set_option maxHeartbeats 4000000 in
theorem name_ok (s : ByteArray) : PSpec cxA 131 [.str s] (.ret (.bool (nameM s))) := by
  refine PSpec.of_WC cxA_ok Tryz.func131 rfl Tryz.call131 (Nat.le_of_ble_eq_true rfl) (g := 1) ?_
  conv => whnf
  repeat' first | (refine RegP.enter ?_; conv => whnf) | (refine DrawP.range (by kernel_rfl) ?_; conv => whnf) | (refine BuildP.frz ⟨rfl, ?_⟩; conv => whnf) | (refine BoxP.row ?_; conv => whnf) | (refine And.intro Nat.zero_lt_one ?_; conv => whnf) | (refine And.intro (Nat.succ_pos _) ?_; conv => whnf) | (refine call_same (valid_ok _) rfl ?_; conv => whnf) | (refine call_same (indexByte_ok _ 0) rfl ?_; conv => whnf) | (refine br (fun hb => ?_) (fun hb => ?_) <;> (try rw [hb]) <;> (conv => whnf)) | fail
  all_goals (refine Ent.of_check ?_ rfl)
  all_goals (conv => whnf)
  (iterate 3 ((all_goals try (conv => whnf)); (repeat' first | exact ⟨⟩ | refine And.intro ?_ ?_ | rfl | exact fun _ h => h | exact .inl rfl | exact none_some | exact .inr in4 | fail)))
  all_goals (try simp only [Bool.not_eq_true', Bool.not_eq_false', dT, dF] at *)
  all_goals (try simp_all [dT, dF, nameM])
  all_goals (try (intros; omega))
end Go.Eng

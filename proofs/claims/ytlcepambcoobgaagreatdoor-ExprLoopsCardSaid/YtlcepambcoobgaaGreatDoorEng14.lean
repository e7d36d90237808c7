/- Eng14: an engine for the program's code, and walks of its functions (Cxa). -/
import Derived.Test.YtlcepambcoobgaaGreatDoorEng09
import Derived.Test.YtlcepambcoobgaaGreatDoorEng11
import Derived.Test.YtlcepambcoobgaaGreatDoorEng12
namespace Go.Eng
open Go.Proofs
set_option maxRecDepth 100000
/-- The methods of the nodes. -/
def methA (t : TypeId) (name : String) : Option FuncId := match decide (name = "coffret/expr.eval") with
  | false => none
  | true => match Nat.beq t 170 with
    | true => some 386
    | false => match Nat.beq t 230 with
      | true => some 387
      | false => match Nat.beq t 161 with
        | true => some 378
        | false => match Nat.beq t 162 with
          | true => some 380
          | false => match Nat.beq t 166 with
            | true => some 381
            | false => match Nat.beq t 236 with
              | true => some 445
              | false => match Nat.beq t 287 with
                | true => some 446
                | false => match Nat.beq t 232 with
                  | true => some 388
                  | false => none
theorem m386 : methOf Tryz.prog 170 "coffret/expr.eval" = some 386 := by kernel_rfl
theorem m387 : methOf Tryz.prog 230 "coffret/expr.eval" = some 387 := by kernel_rfl
theorem m378 : methOf Tryz.prog 161 "coffret/expr.eval" = some 378 := by kernel_rfl
theorem m380 : methOf Tryz.prog 162 "coffret/expr.eval" = some 380 := by kernel_rfl
theorem m381 : methOf Tryz.prog 166 "coffret/expr.eval" = some 381 := by kernel_rfl
theorem m445 : methOf Tryz.prog 236 "coffret/expr.eval" = some 445 := by kernel_rfl
theorem m446 : methOf Tryz.prog 287 "coffret/expr.eval" = some 446 := by kernel_rfl
theorem m388 : methOf Tryz.prog 232 "coffret/expr.eval" = some 388 := by kernel_rfl
theorem methA_ok {t : TypeId} {name : String} {f : FuncId} (h : methA t name = some f) : ∀ (v : Value) (w : World), (method (Tryz.prog.types.size + Made.depth) t v name).run Tryz.prog w = .ok (f, v) w := by
  unfold methA at h
  split at h
  · cases h
  rename_i hn
  obtain rfl := of_decide_eq_true hn
  have key : ∀ {k n : Nat} {x : Option FuncId}, (match Nat.beq t k with | true => some n | false => x) = some f → (t = k ∧ n = f) ∨ x = some f := by
    intro k n x h
    cases hb : Nat.beq t k with
    | true => rw [hb] at h; exact .inl ⟨Nat.eq_of_beq_eq_true hb, by simpa using h⟩
    | false => rw [hb] at h; exact .inr h
  rcases key h with ⟨rfl, rfl⟩ | h
  · exact methOf_ok m386
  rcases key h with ⟨rfl, rfl⟩ | h
  · exact methOf_ok m387
  rcases key h with ⟨rfl, rfl⟩ | h
  · exact methOf_ok m378
  rcases key h with ⟨rfl, rfl⟩ | h
  · exact methOf_ok m380
  rcases key h with ⟨rfl, rfl⟩ | h
  · exact methOf_ok m381
  rcases key h with ⟨rfl, rfl⟩ | h
  · exact methOf_ok m445
  rcases key h with ⟨rfl, rfl⟩ | h
  · exact methOf_ok m446
  rcases key h with ⟨rfl, rfl⟩ | h
  · exact methOf_ok m388
  cases h
/-- The library's variables, as they are laid. -/
def LaidA (w : World) : Prop := Lib.TabIs Tryz.prog w "internal/strconv.uint64pow10" .u64 Lib.pow10Tab ∧ Lib.Utf8Tabs 1 2 w ∧ ∃ m : Int, w.cell? ⟨0, 0, none⟩ = some (.int .i64 m)
noncomputable def cxA : Cx := ⟨Tryz.prog, fun t => tyTree.get t, fun _ => none, methA, [0, 1, 2, 3], LaidA⟩
theorem cxA_ok : CxOK cxA := ⟨fun _ _ h => tyTree_ok.get h, fun _ _ _ h => methA_ok h, mixed_ok⟩
theorem laidA {w : World} {F : Nat → Prop} (h : GOK cxA w F) : LaidA w := by
  obtain ⟨W0, ⟨h1, h2, m, h3⟩, hk⟩ := h.i
  have e : ∀ g, g ∈ [0, 1, 2, 3] → w.heap[g]? = W0.heap[g]? := fun g hg => (hk g hg).2
  have ec : ∀ g o, g ∈ [0, 1, 2, 3] → w.cell? ⟨g, o, none⟩ = W0.cell? ⟨g, o, none⟩ := fun g o hg => cell?_block (e g hg) o
  refine ⟨?_, ⟨fun c hc => (ec 1 c (by simp)).trans (h2.1 c hc), fun i hi => ⟨(ec 2 _ (by simp)).trans (h2.2 i hi).1, (ec 2 _ (by simp)).trans (h2.2 i hi).2⟩⟩, m, (ec 0 0 (by simp)).trans h3⟩
  have hg : Tryz.prog.globalNamed "internal/strconv.uint64pow10" = some 3 := by kernel_rfl
  unfold Lib.TabIs at h1 ⊢
  rw [← h1]
  unfold World.var?
  rw [hg]
  simp only [Option.bind_some, e 3 (by simp)]
end Go.Eng

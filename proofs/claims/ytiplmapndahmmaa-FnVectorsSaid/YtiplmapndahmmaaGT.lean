/- The types that these functions use. -/
import Derived.Test.YtiplmapndahmmaaAl25
import Derived.Test.YtiplmapndahmmaaProg
namespace Go.Proofs.Ytiplmapndahmmaa
open Al
set_option linter.unusedVariables false
set_option linter.constructorNameAsVariable false
theorem eq67 : EqFact Try.prog 67 2 := by
  refine eqFact_of (by kernel_rfl) (by kernel_rfl) (by kernel_rfl) fun W us vs ha hb => ?_
  have hfs : (Program.fieldsOf Try.prog 67).toList = [{ name := "A", type := 3, offset := 0, embedded := false, tag := "", pkgPath := "", byteOffset := 0 }, { name := "B", type := 3, offset := 1, embedded := false, tag := "", pkgPath := "", byteOffset := 8 }] := by kernel_rfl
  match us, vs, ha, hb with
  | [p0, p1], [q0, q1], _, _ =>
    rw [hfs, eqStep (a := p0) (b := q0) (by decide) (by kernel_rfl) rfl rfl, eqStep (a := p1) (b := q1) (by decide) (by kernel_rfl) rfl rfl]
    simp only [Op.eqFields, Sem.run_pure]
    by_cases h0 : p0 = q0 <;> by_cases h1 : p1 = q1 <;> simp [h0, h1]
def tt : Tab := [
  (3, ⟨1, 8, .c (.int .i64 (0 : Int)), .int .i64, .boo, false⟩),
  (4, ⟨1, 1, .c (.bool false), .boo, .boo, false⟩),
  (5, ⟨1, 1, .c (.int .u8 (0 : Int)), .int .u8, .boo, false⟩),
  (9, ⟨1, 16, .c (.str (ByteArray.mk #[])), .str, .boo, false⟩),
  (22, ⟨1, 24, .c (.nl), .sl 5, .num .u8, false⟩),
  (24, ⟨1, 24, .c (.nl), .sl 3, .num .i64, false⟩),
  (26, ⟨1, 24, .c (.nl), .sl 67, .pr (.num .i64) (.num .i64), false⟩),
  (28, ⟨3, 56, .ag [.int .i64 (0 : Int), .nl, .nl], .st [(0, 3), (1, 26), (2, 24)], .boo, false⟩),
  (34, ⟨1, 24, .c (.nl), .sl 24, .sl (.num .i64), false⟩),
  (38, ⟨1, 8, .c (.np), .ptr, .boo, false⟩),
  (39, ⟨1, 8, .c (.int .u64 (0 : Int)), .int .u64, .boo, false⟩),
  (41, ⟨3, 40, .ag [.nl, .int .i64 (0 : Int), .int .u64 (0 : Int)], .st [(0, 22), (1, 3), (2, 39)], .boo, false⟩),
  (47, ⟨1, 8, .c (.nf), .fnc, .boo, false⟩),
  (48, ⟨1, 8, .c (.np), .ptr, .boo, false⟩),
  (51, ⟨1, 8, .c (.int .u64 (0 : Int)), .int .u64, .boo, false⟩),
  (67, ⟨2, 16, .ag [.int .i64 (0 : Int), .int .i64 (0 : Int)], .st [(0, 3), (1, 3)], .boo, true⟩),
  (70, ⟨3, 56, .ag [.int .i64 (0 : Int), .nl, .nl], .st [(0, 28)], .boo, false⟩),
  (72, ⟨1, 4, .c (.int .u32 (0 : Int)), .int .u32, .boo, false⟩),
  (76, ⟨1, 8, .c (.nf), .fnc, .boo, false⟩),
  (77, ⟨1, 8, .c (.np), .ptr, .boo, false⟩)]
theorem ttOK : TabOK Try.prog tt :=
  ⟨⟨by kernel_rfl, by kernel_rfl, by kernel_rfl, by kernel_rfl, (fun h => by cases h), (fun _ => by kernel_rfl)⟩,
   ⟨by kernel_rfl, by kernel_rfl, by kernel_rfl, by kernel_rfl, (fun h => by cases h), (fun _ => by kernel_rfl)⟩,
   ⟨by kernel_rfl, by kernel_rfl, by kernel_rfl, by kernel_rfl, (fun h => by cases h), (fun _ => by kernel_rfl)⟩,
   ⟨by kernel_rfl, by kernel_rfl, by kernel_rfl, by kernel_rfl, (fun h => by cases h), (fun _ => by kernel_rfl)⟩,
   ⟨by kernel_rfl, by kernel_rfl, by kernel_rfl, by kernel_rfl, (fun h => by cases h), (fun _ => by kernel_rfl)⟩,
   ⟨by kernel_rfl, by kernel_rfl, by kernel_rfl, by kernel_rfl, (fun h => by cases h), (fun _ => by kernel_rfl)⟩,
   ⟨by kernel_rfl, by kernel_rfl, by kernel_rfl, by kernel_rfl, (fun h => by cases h), (fun _ => by kernel_rfl)⟩,
   ⟨by kernel_rfl, by kernel_rfl, by kernel_rfl, by kernel_rfl, (fun h => by cases h), (fun h => by cases h)⟩,
   ⟨by kernel_rfl, by kernel_rfl, by kernel_rfl, by kernel_rfl, (fun h => by cases h), (fun _ => by kernel_rfl)⟩,
   ⟨by kernel_rfl, by kernel_rfl, by kernel_rfl, by kernel_rfl, (fun h => by cases h), (fun _ => by kernel_rfl)⟩,
   ⟨by kernel_rfl, by kernel_rfl, by kernel_rfl, by kernel_rfl, (fun h => by cases h), (fun _ => by kernel_rfl)⟩,
   ⟨by kernel_rfl, by kernel_rfl, by kernel_rfl, by kernel_rfl, (fun h => by cases h), (fun h => by cases h)⟩,
   ⟨by kernel_rfl, by kernel_rfl, by kernel_rfl, by kernel_rfl, (fun h => by cases h), (fun _ => by kernel_rfl)⟩,
   ⟨by kernel_rfl, by kernel_rfl, by kernel_rfl, by kernel_rfl, (fun h => by cases h), (fun _ => by kernel_rfl)⟩,
   ⟨by kernel_rfl, by kernel_rfl, by kernel_rfl, by kernel_rfl, (fun h => by cases h), (fun _ => by kernel_rfl)⟩,
   ⟨by kernel_rfl, by kernel_rfl, by kernel_rfl, by kernel_rfl, (fun _ => eq67), (fun h => by cases h)⟩,
   ⟨by kernel_rfl, by kernel_rfl, by kernel_rfl, by kernel_rfl, (fun h => by cases h), (fun h => by cases h)⟩,
   ⟨by kernel_rfl, by kernel_rfl, by kernel_rfl, by kernel_rfl, (fun h => by cases h), (fun _ => by kernel_rfl)⟩,
   ⟨by kernel_rfl, by kernel_rfl, by kernel_rfl, by kernel_rfl, (fun h => by cases h), (fun _ => by kernel_rfl)⟩,
   ⟨by kernel_rfl, by kernel_rfl, by kernel_rfl, by kernel_rfl, (fun h => by cases h), (fun _ => by kernel_rfl)⟩, trivial⟩
theorem ttMix : (Try.prog).follows .mixedOrders = true := by kernel_rfl
end Go.Proofs.Ytiplmapndahmmaa

/- From a contract to the calculus of the rows. -/
import Derived.Test.YtiplmapndahmmaaAl25
import Derived.OpenShut
import Derived.Below
namespace Go.Proofs.Ytiplmapndahmmaa
namespace Al
open Go.RowKit
set_option linter.constructorNameAsVariable false
set_option linter.unusedVariables false
set_option linter.unusedSimpArgs false

/-- All that was there stays. -/
def oldSt (w : World) (b i : Nat) : Prop := b < w.heap.size

/-- A row of numbers that came in, as a list that stays. -/
theorem row_rep {w : World} {k : IntKind} {a : Option Addr} {len cap : Nat} {zs : List Int} {ρ : Nat → Option Value}
    (h : (a = none ∧ len = 0 ∧ cap = 0 ∧ zs = []) ∨ ∃ x, a = some x ∧ len ≤ cap ∧ cap ≤ maxLen ∧ zs.length = cap ∧ (∀ i, i < zs.length → w.cell? (x.add i) = some (.int k (zs.getD i 0))) ∧ ∀ n ∈ zs, (Lit.int k n).wf = true) :
    RepS w (oldSt w) ρ (.v (.c (.ls false (.num k) (zs.take len)))) (.slice a len cap) := by
  rcases h with ⟨rfl, rfl, rfl, rfl⟩ | ⟨x, rfl, h1, h2, h3, h4, h5⟩
  · exact ⟨rfl, none, 0, rfl, nilL, fun e => by cases e⟩
  · have hl : (zs.take len).length = len := by rw [List.length_take, h3]; omega
    refine ⟨rfl, some x, cap, by rw [hl], ⟨by rw [hl]; exact h1, h2, (fun e => by cases e), (zs.take len).map (Value.int k), by simp [Ty.sz], fun i y hy => ?_, fun j u hj => ?_⟩, fun e => by cases e⟩
    · show _ = [Value.int k y]
      have hi := (List.getElem?_eq_some_iff.1 hy).1
      rw [List.getElem?_eq_some_iff] at hy
      obtain ⟨hi', hy⟩ := hy
      simp only [Ty.sz, Nat.mul_one]
      rw [List.drop_eq_getElem_cons (by simpa using hi'), List.take_succ_cons, List.take_zero, List.getElem_map, hy]
    · rw [List.getElem?_map] at hj
      cases hz : (zs.take len)[j]? with
      | none => rw [hz] at hj; cases hj
      | some y =>
        rw [hz] at hj
        cases hj
        have hjl : j < zs.length := by have := (List.getElem?_eq_some_iff.1 hz).1; rw [hl] at this; omega
        obtain ⟨b, off, rfl, hc⟩ := ints_at h4 (by omega)
        have hcell := hc j hjl
        have hy : zs.getD j 0 = y := by
          rw [List.getElem?_take] at hz
          split at hz
          · simp [List.getD, hz]
          · cases hz
        rw [hy] at hcell
        exact ⟨b, off, rfl, hcell, World.block_lt_of_cell? w _ hcell⟩

theorem wf_u8 {x : Int} (h : (Lit.int .u8 x).wf = true) : 0 ≤ x ∧ x ≤ 255 := by
  have h : IntKind.u8.min ≤ x ∧ x ≤ IntKind.u8.max := by simpa [Lit.wf] using h
  exact h
theorem wf_i64 {x : Int} (h : (Lit.int .i64 x).wf = true) : -9223372036854775808 ≤ x ∧ x ≤ 9223372036854775807 := by
  have h : IntKind.i64.min ≤ x ∧ x ≤ IntKind.i64.max := by simpa [Lit.wf] using h
  exact h

theorem calls_of_acall {P : Program} {f : FuncId} {args : List SV} {b : Bool} {vals : Array Value} {w : World} (h : ACall P f args [] [] (.v (.c (.bool b))) []) (hl : vals.size = args.length)
    (hs : ∀ k, RepS w (oldSt w) (fun _ => none) (argE args k) (vals.getD k undef)) : Calls P f vals w fun e w' => e = .returned (.bool b) ∧ Below w.heap.size w w' := by
  have hS : Sim (argE args) (hpF []) vals [] w (oldSt w) (fun _ => none) (fun _ => none) :=
    ⟨hs, fun o => ⟨rfl, rfl⟩, (fun _ _ _ e => by cases e), (fun _ _ e => by cases e), (fun _ _ _ e => by cases e), fun _ _ h => h, trivial⟩
  have hc := h.2 0 vals w _ _ _ hl hS
  refine callsIn_wide.1 (CallsIn.mono hc fun e w' hp => ?_)
  obtain ⟨v, St', ρ', F', rfl, hS', hE⟩ := hp
  have h0 := hS'.slot 0
  have h0 : RepS w' St' ρ' (.v (.c (.bool b))) v := h0
  rw [rep_bool h0]
  exact ⟨rfl, hE.os, hE.tape, hE.output, hE.size, fun k hk => (hE.old k hk (fun _ e => by cases e)).1⟩
end Al
end Go.Proofs.Ytiplmapndahmmaa

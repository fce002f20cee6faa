/- Plain laws: numbers that fit, shifts, bits, tables, lists read by number. -/
import Derived.Test.YtiplmapndahmmaaGD
import Derived.WalkKit
namespace Go.Proofs.Ytiplmapndahmmaa
open Al
set_option linter.unusedVariables false
set_option linter.unusedSimpArgs false
namespace Pu

theorem w64 {x : Int} (h : -9223372036854775808 ≤ x ∧ x ≤ 9223372036854775807) : IntKind.i64.wrap x = x := by rw [IntKind.wrap_i64]; omega
theorem wu64 {x : Int} (h : 0 ≤ x ∧ x ≤ 18446744073709551615) : IntKind.u64.wrap x = x := by rw [IntKind.wrap_u64]; omega
theorem wu8 {x : Int} (h : 0 ≤ x ∧ x ≤ 255) : IntKind.u8.wrap x = x := by rw [IntKind.wrap_u8]; omega
theorem shr_nat (k : IntKind) (hk : k.bits = 64) (x i : Nat) (h : x < 2 ^ 64) : shrI k (x : Int) (i : Int) = ((x / 2 ^ i : Nat) : Int) := by
  unfold shrI
  rw [hk, Int.toNat_natCast, Int.fdiv_eq_ediv_of_nonneg _ (Int.le_of_lt (Int.pow_pos (by decide)))]
  by_cases hi : i ≤ 64
  · rw [Nat.min_eq_left hi]; norm_cast
  · rw [Nat.min_eq_right (by omega)]
    have h1 : x / 2 ^ i = 0 := Nat.div_eq_of_lt (Nat.lt_of_lt_of_le h (Nat.pow_le_pow_right (by decide) (by omega)))
    rw [h1]
    have h2 : x / 2 ^ 64 = 0 := Nat.div_eq_of_lt h
    have : ((x : Int) / 2 ^ 64) = ((x / 2 ^ 64 : Nat) : Int) := by norm_cast
    rw [this, h2]

theorem shr64 (x i : Nat) (h : x < 2 ^ 64) : shrI .i64 (x : Int) (i : Int) = ((x / 2 ^ i : Nat) : Int) := shr_nat .i64 rfl x i h
theorem shru64 (x i : Nat) (h : x < 2 ^ 64) : shrI .u64 (x : Int) (i : Int) = ((x / 2 ^ i : Nat) : Int) := shr_nat .u64 rfl x i h

theorem and_nat (k : IntKind) (hk : k.bits = 64) (x y : Nat) (hx : x < 2 ^ 63) (hy : y < 2 ^ 64) (hw : ∀ n : Int, 0 ≤ n → n < 2 ^ 63 → k.wrap n = n) : bits .and k (x : Int) (y : Int) = ((x &&& y : Nat) : Int) := by
  unfold bits
  rw [hk]
  simp only [BitVec.toNat_and, BitVec.ofInt_natCast, BitVec.toNat_ofNat]
  rw [Nat.mod_eq_of_lt (by omega), Nat.mod_eq_of_lt hy]
  refine hw _ (by omega) ?_
  have : x &&& y ≤ x := Nat.and_le_left
  omega

theorem and64 (x y : Nat) (hx : x < 2 ^ 63) (hy : y < 2 ^ 64) : bits .and .i64 (x : Int) (y : Int) = ((x &&& y : Nat) : Int) := and_nat .i64 rfl x y hx hy fun n h0 h1 => w64 (by omega)
theorem and_one (x : Nat) (hx : x < 2 ^ 63) : bits .and .i64 (x : Int) (1 : Int) = ((x % 2 : Nat) : Int) := by
  have := and64 x 1 hx (by decide)
  rw [Nat.and_one_is_mod] at this
  exact this
theorem tmod_nat (x y : Nat) : Int.tmod (x : Int) (y : Int) = ((x % y : Nat) : Int) := by norm_cast

/-- An element, and the list behind it. -/
theorem drop_cons {α : Type} (xs : List α) (d : α) {k : Nat} (h : k < xs.length) : xs.drop k = xs.getD k d :: xs.drop (k + 1) := by
  rw [List.drop_eq_getElem_cons h, List.getD_eq_getElem?_getD, List.getElem?_eq_getElem h]; rfl
theorem drop_cons' {α : Type} (xs : List α) (d : α) {i : Int} (h0 : 0 ≤ i) (h : i < (xs.length : Int)) : xs.drop i.toNat = xs.getD i.toNat d :: xs.drop (i + 1).toNat := by
  rw [drop_cons xs d (by omega), show (i + 1).toNat = i.toNat + 1 by omega]
theorem drop_end {α : Type} (xs : List α) {i : Int} (h : (xs.length : Int) ≤ i) : xs.drop i.toNat = [] := List.drop_eq_nil_of_le (by omega)
theorem itd_t {α : Sort _} {C : Prop} [Decidable C] (h : C) (x y : α) : (if decide C = true then x else y) = x := by rw [if_pos (by simp [h])]
theorem itd_f {α : Sort _} {C : Prop} [Decidable C] (h : ¬ C) (x y : α) : (if decide C = true then x else y) = y := by rw [if_neg (by simp [h])]
theorem gcl_t {α : Type} (x : Option α) (d : α) : gcl true x d = x := rfl
theorem gcl_f {α : Type} (x : Option α) (d : α) : gcl false x d = some d := rfl
/-- A loop over a list by number that ends early at an element with p. -/
theorem scan_any {α β : Type} {L : Nat → Int → Option β} {A B : Option β} (xs : List α) (d : α) (p : α → Bool)
    (hL : ∀ n i, 0 ≤ i → i < (xs.length : Int) → L (n + 1) i = if p (xs.getD i.toNat d) = true then A else L n (i + 1)) (hE : ∀ n, L (n + 1) (xs.length : Int) = B) :
    ∀ (n : Nat) (i : Int), 0 ≤ i → i ≤ (xs.length : Int) → (xs.length : Int) - i < n → L n i = if (xs.drop i.toNat).any p = true then A else B := by
  intro n
  induction n with
  | zero => intros; omega
  | succ n ih =>
    intro i h0 h1 hn
    by_cases h : i < (xs.length : Int)
    · rw [hL n i h0 h, drop_cons' xs d h0 h, List.any_cons, ih (i + 1) (by omega) (by omega) (by omega)]
      cases p (xs.getD i.toNat d) <;> simp
    · have : i = (xs.length : Int) := by omega
      subst this
      rw [hE, drop_end xs (Int.le_refl _)]
      simp

/-- The number of the first one with p. -/
theorem scan_find {α : Type} {L : Nat → Int → Option Int} (xs : List α) (d : α) (p : α → Bool)
    (hL : ∀ n i, 0 ≤ i → i < (xs.length : Int) → L (n + 1) i = if p (xs.getD i.toNat d) = true then some i else L n (i + 1)) (hE : ∀ n, L (n + 1) (xs.length : Int) = some (-1)) :
    ∀ (n : Nat) (i : Int), 0 ≤ i → i ≤ (xs.length : Int) → (xs.length : Int) - i < n → ∃ r, L n i = some r ∧ decide (r ≥ 0) = (xs.drop i.toNat).any p := by
  intro n
  induction n with
  | zero => intros; omega
  | succ n ih =>
    intro i h0 h1 hn
    by_cases h : i < (xs.length : Int)
    · rw [hL n i h0 h, drop_cons' xs d h0 h, List.any_cons]
      cases hp : p (xs.getD i.toNat d) with
      | true => exact ⟨i, by simp, by simp [h0]⟩
      | false => obtain ⟨r, e, hr⟩ := ih (i + 1) (by omega) (by omega) (by omega); exact ⟨r, by simp [e], by simp [hr]⟩
    · have : i = (xs.length : Int) := by omega
      subst this
      exact ⟨-1, hE n, by simp⟩

/-- A loop over a list by number, with what it keeps. -/
theorem scan {σ α β : Type} {L : Nat → Int → σ → Option β} {R : Int → σ → Option β} (xs : List α) (I : Int → σ → Prop)
    (hL : ∀ n i s, 0 ≤ i → i < (xs.length : Int) → I i s → (∀ s', I (i + 1) s' → L n (i + 1) s' = R (i + 1) s') → L (n + 1) i s = R i s) (hE : ∀ n s, I (xs.length : Int) s → L (n + 1) (xs.length : Int) s = R (xs.length : Int) s) :
    ∀ (n : Nat) (i : Int) (s : σ), 0 ≤ i → i ≤ (xs.length : Int) → (xs.length : Int) - i < n → I i s → L n i s = R i s := by
  intro n
  induction n with
  | zero => intros; omega
  | succ n ih =>
    intro i s h0 h1 hn hI
    by_cases h : i < (xs.length : Int)
    · exact hL n i s h0 h hI fun s' hs' => ih (i + 1) s' (by omega) (by omega) (by omega) hs'
    · have : i = (xs.length : Int) := by omega
      subst this
      exact hE n s hI

theorem scan_fold {σ α β : Type} {L : Nat → Int → σ → Option β} {K : σ → Option β} (xs : List α) (d : α) (f : σ → α → σ)
    (hL : ∀ n i s, 0 ≤ i → i < (xs.length : Int) → L (n + 1) i s = L n (i + 1) (f s (xs.getD i.toNat d))) (hE : ∀ n s, L (n + 1) (xs.length : Int) s = K s)
    (n : Nat) (i : Int) (s : σ) (h0 : 0 ≤ i) (h1 : i ≤ (xs.length : Int)) (hn : (xs.length : Int) - i < n) : L n i s = K ((xs.drop i.toNat).foldl f s) := by
  refine scan (R := fun i s => K ((xs.drop i.toNat).foldl f s)) xs (fun _ _ => True) (fun n i s h0 h _ ih => ?_) (fun n s _ => ?_) n i s h0 h1 hn trivial
  · rw [hL n i s h0 h, ih _ trivial, drop_cons' xs d h0 h, List.foldl_cons]
  · rw [hE, drop_end xs (Int.le_refl _), List.foldl_nil]
end Pu
end Go.Proofs.Ytiplmapndahmmaa

/- Plain laws: digits that are 1 as the library counts them; texts of bytes drawn; lists compared. -/
import Derived.Test.YticeepbgbefmaaaP4
namespace Go.Proofs.Yticeepbgbefmaaa
open Al
set_option linter.unusedVariables false
set_option linter.unusedSimpArgs false
namespace Pu

theorem and_split (a b c d k : Nat) (hb : b < 2 ^ k) (hd : d < 2 ^ k) : (2 ^ k * a + b) &&& (2 ^ k * c + d) = 2 ^ k * (a &&& c) + (b &&& d) := by
  have hbd : b &&& d < 2 ^ k := Nat.and_lt_two_pow b hd
  apply Nat.eq_of_testBit_eq
  intro i
  simp only [Nat.testBit_and, Nat.testBit_two_pow_mul_add _ hb, Nat.testBit_two_pow_mul_add _ hd, Nat.testBit_two_pow_mul_add _ hbd]
  split <;> rfl
theorem and_split8 (a b c d : Nat) (hb : b < 256) (hd : d < 256) : (256 * a + b) &&& (256 * c + d) = 256 * (a &&& c) + (b &&& d) := and_split a b c d 8 hb hd

theorem popc_step (n : Nat) : popc n = n % 2 + popc (n / 2) := by
  by_cases h : n = 0
  · subst h; simp [popc_zero]
  · rw [popc, dif_neg h]
theorem popc_split (y a : Nat) (ha : a < 256) : popc (256 * y + a) = popc y + popc a := by
  have h : ∀ (k y a : Nat), a < 2 ^ k → popc (2 ^ k * y + a) = popc y + popc a := by
    intro k
    induction k with
    | zero => intro y a ha; have : a = 0 := by omega
              subst this; simp [popc_zero]
    | succ k ih =>
      intro y a ha
      rw [popc_step, popc_step a]
      have e0 : 2 ^ (k + 1) * y + a = 2 * (2 ^ k * y) + a := by rw [Nat.pow_succ, Nat.mul_comm (2 ^ k) 2, Nat.mul_assoc]
      have e1 : (2 ^ (k + 1) * y + a) % 2 = a % 2 := by rw [e0]; omega
      have e2 : (2 ^ (k + 1) * y + a) / 2 = 2 ^ k * y + a / 2 := by rw [e0]; omega
      rw [e1, e2, ih y (a / 2) (by rw [Nat.pow_succ] at ha; omega)]; omega
  exact h 8 y a ha

def g1 (a : Nat) : Nat := ((a / 2) &&& 85) + (a &&& 85)
def g2 (a : Nat) : Nat := ((a / 4) &&& 51) + (a &&& 51)
def g3 (a : Nat) : Nat := (a / 16 + a) &&& 15
theorem g_popc : ∀ a : Fin 256, g3 (g2 (g1 a.val)) = popc a.val ∧ g1 a.val < 256 ∧ g2 (g1 a.val) < 256 ∧ g2 (g1 a.val) % 16 ≤ 4 ∧ g2 (g1 a.val) / 16 ≤ 4 := by
  have h : ∀ a : Fin 256, g3 (g2 (g1 a.val)) = (a.val % 2 + (a.val / 2 % 2 + (a.val / 2 / 2 % 2 + (a.val / 2 / 2 / 2 % 2 + (a.val / 2 / 2 / 2 / 2 % 2 + (a.val / 2 / 2 / 2 / 2 / 2 % 2 + (a.val / 2 / 2 / 2 / 2 / 2 / 2 % 2 + (a.val / 2 / 2 / 2 / 2 / 2 / 2 / 2 % 2 + 0)))))))) ∧ g1 a.val < 256 ∧ g2 (g1 a.val) < 256 ∧ g2 (g1 a.val) % 16 ≤ 4 ∧ g2 (g1 a.val) / 16 ≤ 4 := by decide +kernel
  intro a
  obtain ⟨h1, h2⟩ := h a
  refine ⟨?_, h2⟩
  rw [h1]
  have ha := a.isLt
  generalize a.val = n at *
  simp only [popc_step n, popc_step (n / 2), popc_step (n / 2 / 2), popc_step (n / 2 / 2 / 2), popc_step (n / 2 / 2 / 2 / 2), popc_step (n / 2 / 2 / 2 / 2 / 2), popc_step (n / 2 / 2 / 2 / 2 / 2 / 2), popc_step (n / 2 / 2 / 2 / 2 / 2 / 2 / 2)]
  have : n / 2 / 2 / 2 / 2 / 2 / 2 / 2 / 2 = 0 := by omega
  rw [this, popc_zero]

theorem half_and : ∀ (r : Fin 2) (a : Fin 256), (128 * r.val + a.val / 2) &&& 85 = (a.val / 2) &&& 85 := by decide +kernel
theorem quarter_and : ∀ (r : Fin 4) (a : Fin 256), (64 * r.val + a.val / 4) &&& 51 = (a.val / 4) &&& 51 := by decide +kernel

/-- One byte of the first two steps. -/
theorem f1_split (y a M : Nat) (ha : a < 256) : ((256 * y + a) / 2 &&& (256 * M + 85)) + ((256 * y + a) &&& (256 * M + 85)) = 256 * ((y / 2 &&& M) + (y &&& M)) + g1 a := by
  have e : (256 * y + a) / 2 = 256 * (y / 2) + (128 * (y % 2) + a / 2) := by omega
  rw [e, and_split8 _ _ _ _ (by omega) (by omega), and_split8 _ _ _ _ ha (by omega), show 128 * (y % 2) + a / 2 &&& 85 = a / 2 &&& 85 from half_and ⟨y % 2, by omega⟩ ⟨a, ha⟩, g1]
  omega
theorem f2_split (y a M : Nat) (ha : a < 256) : ((256 * y + a) / 4 &&& (256 * M + 51)) + ((256 * y + a) &&& (256 * M + 51)) = 256 * ((y / 4 &&& M) + (y &&& M)) + g2 a := by
  have e : (256 * y + a) / 4 = 256 * (y / 4) + (64 * (y % 4) + a / 4) := by omega
  rw [e, and_split8 _ _ _ _ (by omega) (by omega), and_split8 _ _ _ _ ha (by omega), show 64 * (y % 4) + a / 4 &&& 51 = a / 4 &&& 51 from quarter_and ⟨y % 4, by omega⟩ ⟨a, ha⟩, g2]
  omega
theorem nib_and : ∀ (r : Fin 5) (p : Fin 5) (q : Fin 5), (16 * r.val + (16 * p.val + q.val) / 16 + (16 * p.val + q.val)) &&& 15 = ((16 * p.val + q.val) / 16 + (16 * p.val + q.val)) &&& 15 := by decide +kernel
theorem f3_split (y a M : Nat) (ha : a < 256) (h1 : a % 16 ≤ 4) (h2 : a / 16 ≤ 4) (hy : y % 16 ≤ 4) : ((256 * y + a) / 16 + (256 * y + a)) &&& (256 * M + 15) = 256 * ((y / 16 + y) &&& M) + g3 a := by
  have e : (256 * y + a) / 16 + (256 * y + a) = 256 * (y / 16 + y) + (16 * (y % 16) + a / 16 + a) := by omega
  rw [e, and_split8 _ _ _ _ (by omega) (by omega)]
  have := nib_and ⟨y % 16, by omega⟩ ⟨a / 16, by omega⟩ ⟨a % 16, by omega⟩
  simp only [show 16 * (a / 16) + a % 16 = a by omega] at this
  rw [this, g3]

def M5 : Nat := 6148914691236517205
def M3 : Nat := 3689348814741910323
def MF : Nat := 1085102592571150095

theorem count3 (a b c : Nat) (ha : a < 256) (hb : b < 256) (hc : c < 256) :
    let x := 256 * (256 * c + b) + a
    let x1 := (x / 2 &&& M5) + (x &&& M5)
    let x2 := (x1 / 4 &&& M3) + (x1 &&& M3)
    let x3 := (x2 / 16 + x2) &&& MF
    x1 < 2 ^ 24 ∧ x2 < 2 ^ 24 ∧ x3 = 256 * (256 * popc c + popc b) + popc a ∧ popc a ≤ 8 ∧ popc b ≤ 8 ∧ popc c ≤ 8 := by
  intro x x1 x2 x3
  obtain ⟨pa, a1, a2, a3, a4⟩ := g_popc ⟨a, ha⟩
  obtain ⟨pb, b1, b2, b3, b4⟩ := g_popc ⟨b, hb⟩
  obtain ⟨pc, c1, c2, c3, c4⟩ := g_popc ⟨c, hc⟩
  dsimp only at *
  have z1 : ∀ M, (0 / 2 &&& M) + (0 &&& M) = 0 := by intro M; simp
  have z2 : ∀ M, (0 / 4 &&& M) + (0 &&& M) = 0 := by intro M; simp
  have z3 : ∀ M, (0 / 16 + 0) &&& M = 0 := by intro M; simp
  have e1 : x1 = 256 * (256 * g1 c + g1 b) + g1 a := by
    show ((256 * (256 * c + b) + a) / 2 &&& M5) + ((256 * (256 * c + b) + a) &&& M5) = _
    have h1 := f1_split (256 * c + b) a 24019198012642645 ha
    have h2 := f1_split c b 93824992236885 hb
    have h3 := f1_split 0 c 366503875925 hc
    rw [z1] at h3
    simp only [Nat.mul_zero, Nat.zero_add] at h3
    rw [show M5 = 256 * 24019198012642645 + 85 by rfl, h1, show 24019198012642645 = 256 * 93824992236885 + 85 by rfl, h2, show 93824992236885 = 256 * 366503875925 + 85 by rfl, h3]
  have e2 : x2 = 256 * (256 * g2 (g1 c) + g2 (g1 b)) + g2 (g1 a) := by
    show (x1 / 4 &&& M3) + (x1 &&& M3) = _
    rw [e1]
    have h1 := f2_split (256 * g1 c + g1 b) (g1 a) 14411518807585587 a1
    have h2 := f2_split (g1 c) (g1 b) 56294995342131 b1
    have h3 := f2_split 0 (g1 c) 219902325555 c1
    rw [z2] at h3
    simp only [Nat.mul_zero, Nat.zero_add] at h3
    rw [show M3 = 256 * 14411518807585587 + 51 by rfl, h1, show 14411518807585587 = 256 * 56294995342131 + 51 by rfl, h2, show 56294995342131 = 256 * 219902325555 + 51 by rfl, h3]
  have e3 : x3 = 256 * (256 * popc c + popc b) + popc a := by
    show (x2 / 16 + x2) &&& MF = _
    rw [e2]
    have h1 := f3_split (256 * g2 (g1 c) + g2 (g1 b)) (g2 (g1 a)) 4238682002231055 a2 a3 a4 (by omega)
    have h2 := f3_split (g2 (g1 c)) (g2 (g1 b)) 16557351571215 b2 b3 b4 (by omega)
    have h3 := f3_split 0 (g2 (g1 c)) 64677154575 c2 c3 c4 (by omega)
    rw [z3] at h3
    simp only [Nat.mul_zero, Nat.zero_add] at h3
    rw [show MF = 256 * 4238682002231055 + 15 by rfl, h1, show 4238682002231055 = 256 * 16557351571215 + 15 by rfl, h2, show 16557351571215 = 256 * 64677154575 + 15 by rfl, h3, pa, pb, pc]
  have p8 : ∀ a : Fin 256, g3 (g2 (g1 a.val)) ≤ 8 := by decide +kernel
  have qa := p8 ⟨a, ha⟩
  have qb := p8 ⟨b, hb⟩
  have qc := p8 ⟨c, hc⟩
  dsimp only at qa qb qc
  refine ⟨by omega, by omega, e3, by omega, by omega, by omega⟩

theorem F_bits_OnesCount64_eq (fu : Nat) (x : Int) (h0 : 0 ≤ x) (h : x ≤ 1000000) : F_bits_OnesCount64 fu x = some (popc x.toNat : Int) := by
  obtain ⟨n, rfl⟩ : ∃ n : Nat, x = (n : Int) := ⟨x.toNat, by omega⟩
  rw [Int.toNat_natCast]
  obtain ⟨a, b, c, ha, hb, hc, hn⟩ : ∃ a b c, a < 256 ∧ b < 256 ∧ c < 256 ∧ n = 256 * (256 * c + b) + a := ⟨n % 256, n / 256 % 256, n / 65536, by omega, by omega, by omega, by omega⟩
  obtain ⟨b1, b2, e3, q1, q2, q3⟩ := count3 a b c ha hb hc
  rw [← hn] at b1 b2 e3
  have key : ∀ (x1 x2 x3 x4 x5 x6 : Int), x1 = IntKind.u64.wrap (bits .and .u64 (shrI .u64 (n : Int) 1) 6148914691236517205 + bits .and .u64 (n : Int) 6148914691236517205) →
      x2 = IntKind.u64.wrap (bits .and .u64 (shrI .u64 x1 2) 3689348814741910323 + bits .and .u64 x1 3689348814741910323) →
      x3 = bits .and .u64 (IntKind.u64.wrap (shrI .u64 x2 4 + x2)) 1085102592571150095 →
      x4 = IntKind.u64.wrap (x3 + shrI .u64 x3 8) → x5 = IntKind.u64.wrap (x4 + shrI .u64 x4 16) → x6 = IntKind.u64.wrap (x5 + shrI .u64 x5 32) →
      bits .and .i64 (IntKind.i64.wrap x6) 127 = (popc n : Int) := by
    intro x1 x2 x3 x4 x5 x6 h1 h2 h3 h4 h5 h6
    have a1 : x1 = (((n / 2 &&& M5) + (n &&& M5) : Nat) : Int) := by
      rw [h1, show (1 : Int) = ((1 : Nat) : Int) by rfl, shru64 n 1 (by omega), show (2 : Nat) ^ 1 = 2 by rfl, show (6148914691236517205 : Int) = ((M5 : Nat) : Int) by rfl, andu64 _ _ (by omega) (by decide), andu64 _ _ (by omega) (by decide), ← Int.natCast_add]
      rw [wu64 (by omega)]
    generalize hx1 : (n / 2 &&& M5) + (n &&& M5) = y1 at *
    have a2 : x2 = (((y1 / 4 &&& M3) + (y1 &&& M3) : Nat) : Int) := by
      rw [h2, a1, show (2 : Int) = ((2 : Nat) : Int) by rfl, shru64 y1 2 (by omega), show (2 : Nat) ^ 2 = 4 by rfl, show (3689348814741910323 : Int) = ((M3 : Nat) : Int) by rfl, andu64 _ _ (by omega) (by decide), andu64 _ _ (by omega) (by decide), ← Int.natCast_add]
      rw [wu64 (by omega)]
    generalize hx2 : (y1 / 4 &&& M3) + (y1 &&& M3) = y2 at *
    have a3 : x3 = ((256 * (256 * popc c + popc b) + popc a : Nat) : Int) := by
      rw [h3, a2, show (4 : Int) = ((4 : Nat) : Int) by rfl, shru64 y2 4 (by omega), show (2 : Nat) ^ 4 = 16 by rfl, show (1085102592571150095 : Int) = ((MF : Nat) : Int) by rfl, ← Int.natCast_add, wu64 (by omega), andu64 _ _ (by omega) (by decide), ← e3]
    generalize hy3 : 256 * (256 * popc c + popc b) + popc a = y3 at *
    have a4 : x4 = ((y3 + y3 / 256 : Nat) : Int) := by
      rw [h4, a3, show (8 : Int) = ((8 : Nat) : Int) by rfl, shru64 y3 8 (by omega), show (2 : Nat) ^ 8 = 256 by rfl, ← Int.natCast_add, wu64 (by omega)]
    generalize hy4 : y3 + y3 / 256 = y4 at *
    have a5 : x5 = ((y4 + y4 / 65536 : Nat) : Int) := by
      rw [h5, a4, show (16 : Int) = ((16 : Nat) : Int) by rfl, shru64 y4 16 (by omega), show (2 : Nat) ^ 16 = 65536 by rfl, ← Int.natCast_add, wu64 (by omega)]
    generalize hy5 : y4 + y4 / 65536 = y5 at *
    have a6 : x6 = ((y5 + y5 / 4294967296 : Nat) : Int) := by
      rw [h6, a5, show (32 : Int) = ((32 : Nat) : Int) by rfl, shru64 y5 32 (by omega), show (2 : Nat) ^ 32 = 4294967296 by rfl, ← Int.natCast_add, wu64 (by omega)]
    rw [a6, w64 (by omega), show (127 : Int) = ((127 : Nat) : Int) by rfl, and64 _ _ (by omega) (by decide), show 127 = 2 ^ 7 - 1 by rfl, Nat.and_two_pow_sub_one_eq_mod]
    have : popc n = popc c + popc b + popc a := by rw [hn, popc_split _ _ ha, popc_split _ _ hb]
    rw [this]
    clear a1 a2 a3 a4 a5 a6 h1 h2 h3 h4 h5 h6 hx1 hx2 e3 b1 b2 this hn
    generalize popc a = A at *
    generalize popc b = B at *
    generalize popc c = C at *
    have z3 : y3 / 256 = 256 * C + B := by omega
    have z4 : y4 = 65536 * C + 256 * (B + C) + (A + B) := by omega
    have z5 : y4 / 65536 = C := by omega
    have z6 : y5 / 4294967296 = 0 := by omega
    have z7 : (y5 + y5 / 4294967296) % 2 ^ 7 = C + B + A := by rw [z6]; omega
    rw [z7]
  have hk := key _ _ _ _ _ _ rfl rfl rfl rfl rfl rfl
  unfold F_bits_OnesCount64
  exact congrArg some hk

theorem F_i_BitLength_eq (fu : Nat) (x : Int) : F_i_BitLength fu x = some (if 1 ≤ x ∧ x ≤ 1000000 then ((blen x.toNat : Int), true) else (0, false)) := by
  rw [F_i_BitLength, F_i_isNumber_eq, Option.bind_some]
  by_cases h : 1 ≤ x ∧ x ≤ 1000000
  · have : inR 1 1000000 x = true := inR_iff.2 h
    rw [this, if_neg (by simp), F_bits_Len_eq fu x (by omega) (by omega), Option.bind_some, if_pos h]
  · have : inR 1 1000000 x = false := inR_not.2 h
    rw [this, if_neg h]; rfl
theorem F_i_DigitSum_eq (fu : Nat) (x : Int) : F_i_DigitSum fu x = some (if 1 ≤ x ∧ x ≤ 1000000 then ((popc x.toNat : Int), true) else (0, false)) := by
  rw [F_i_DigitSum, F_i_isNumber_eq, Option.bind_some]
  by_cases h : 1 ≤ x ∧ x ≤ 1000000
  · have : inR 1 1000000 x = true := inR_iff.2 h
    rw [this, if_neg (by simp), F_bits_OnesCount, wu64 (by omega), F_bits_OnesCount64_eq fu x (by omega) (by omega), Option.bind_some, Option.bind_some, if_pos h]
  · have : inR 1 1000000 x = false := inR_not.2 h
    rw [this, if_neg h]; rfl

theorem F_l_pSameInts_refl (fu : Nat) (xs : List Int) (hx : xs.length ≤ 1000000000) (hf : xs.length < fu) : F_l_pSameInts fu xs xs = some true := by
  unfold F_l_pSameInts
  rw [if_neg (by simp)]
  refine (scan_any (L := F_l_pSameIntsL2 fu xs xs) (A := some false) (B := some true) xs 0 (fun _ => false) (fun n i h0 h => ?_) (fun n => ?_) fu 0 (by omega) (by omega) (by omega)).trans (by simp)
  · simp (disch := omega) only [F_l_pSameIntsL2, itd_t, chk_of, w64, bne_self_eq_false]
  · simp (disch := omega) only [F_l_pSameIntsL2, itd_f, F_l_pSameIntsJ1]
theorem F_l_pSameSteps_refl (fu : Nat) (xs : List Stp) (hx : xs.length ≤ 1000000000) (hf : xs.length < fu) : F_l_pSameSteps fu xs xs = some true := by
  unfold F_l_pSameSteps
  rw [if_neg (by simp)]
  refine (scan_any (L := F_l_pSameStepsL2 fu xs xs) (A := some false) (B := some true) xs (0, 0) (fun _ => false) (fun n i h0 h => ?_) (fun n => ?_) fu 0 (by omega) (by omega) (by omega)).trans (by simp)
  · simp (disch := omega) only [F_l_pSameStepsL2, itd_t, chk_of, w64, BEq.rfl, Bool.not_true]
  · simp (disch := omega) only [F_l_pSameStepsL2, itd_f, F_l_pSameStepsJ1]
theorem F_l_pSamePlan_refl (fu : Nat) (n : Int) (ss : List Stp) (os : List Int) (hs : ss.length ≤ 1000000) (ho : os.length ≤ 1000000) (hf : 2000000 ≤ fu) : F_l_pSamePlan fu n ss os n ss os = some true := by
  unfold F_l_pSamePlan
  simp only [BEq.rfl, gcl_t, F_l_pSameSteps_refl fu ss (by omega) (by omega), Option.bind_some, cond_true, F_l_pSameInts_refl fu os (by omega) (by omega)]

theorem F_i_Plan_outputExponents_wze_eq (fu : Nat) (n : Int) (ss : List Stp) (os : List Int) (hf : 1000 ≤ fu) (h : plan n ss os = true) : F_i_Plan_outputExponents_wze fu n ss os = some (os.map fun v => (exps n ss).getD v.toNat []) := by
  obtain ⟨hform, hrows⟩ : formOk n ss os = true ∧ rowsOk (exps n ss) = true := by simpa [plan] using h
  obtain ⟨⟨h0, h6⟩, hl, ho, hs, hos⟩ := formOk_iff.1 hform
  obtain ⟨hr, hrl⟩ := exps_rows (by omega) hs
  unfold F_i_Plan_outputExponents_wze
  rw [F_i_Plan_exponents_wze_eq fu n ss os hf h0 h6 hl hs, Option.bind_some]
  have key : ∀ (m : Nat) (i : Int) (acc : List (List Int)), 0 ≤ i → i ≤ (os.length : Int) → (os.length : Int) - i < m → (acc.length : Int) = i →
      F_i_Plan_outputExponents_wzeL2 fu os (exps n ss) m i acc = some (acc ++ (os.drop i.toNat).map fun v => (exps n ss).getD v.toNat []) := by
    intro m
    induction m with
    | zero => intros; omega
    | succ m ih =>
      intro i acc i0 i1 hm hacc
      by_cases hi : i < (os.length : Int)
      · have hv := inR_iff.1 (List.all_eq_true.1 hos _ (getD_mem (k := i.toNat) (by omega)))
        have hg := hr.get (i := os.getD i.toNat 0) (by omega) (by omega)
        rw [F_i_Plan_outputExponents_wzeL2, itd_t hi, chk_of ⟨i0, hi⟩, chk_of (by omega), F_slices_Clone_Lint_int, chk_of (by omega), chk_of (by simp only [List.length_append, List.length_cons, List.length_nil, List.length_replicate, List.length_set, List.length_map, List.length_range, List.length_take, List.length_drop, List.length_zipWith, List.length_reverse]; omega), Option.bind_some, List.nil_append, chk_of (by simp only [List.length_append, List.length_cons, List.length_nil, List.length_replicate, List.length_set, List.length_map, List.length_range, List.length_take, List.length_drop, List.length_zipWith, List.length_reverse]; omega), w64 (by omega), ih (i + 1) _ (by omega) (by omega) (by omega) (by simp only [List.length_append, List.length_cons, List.length_nil, List.length_replicate, List.length_set, List.length_map, List.length_range, List.length_take, List.length_drop, List.length_zipWith, List.length_reverse]; omega), drop_cons' os 0 i0 hi, List.map_cons, List.append_assoc, List.singleton_append]
      · rw [F_i_Plan_outputExponents_wzeL2, itd_f hi, F_i_Plan_outputExponents_wzeJ1, drop_end os (by omega)]; simp
  rw [key fu 0 [] (by omega) (by omega) (by omega) rfl]
  simp

theorem F_i_OutputExponents_eq (fu : Nat) (n : Int) (ss : List Stp) (os : List Int) (hf : 1000 ≤ fu) : F_i_OutputExponents fu n ss os = some (if plan n ss os = true then (true, os.map fun v => (exps n ss).getD v.toNat []) else (false, [])) := by
  rw [F_i_OutputExponents, F_i_IsPlan_eq fu n ss os hf, Option.bind_some]
  cases h : plan n ss os with
  | false => rfl
  | true => rw [if_neg (by simp), F_i_Plan_outputExponents_wze_eq fu n ss os hf h, Option.bind_some, if_pos rfl]

def Bytes (code : List Int) : Prop := ∀ x ∈ code, 0 ≤ x ∧ x ≤ 255

theorem next_ok (fu : Nat) (code : List Int) (p s : Int) (hc : Bytes code) (hl : code.length ≤ 2000000) (h0 : 0 ≤ p) (h1 : p ≤ 1000000000) : ∃ v s', F_s_l1Cur_next_vln fu code p s = some (v, s') ∧ 0 ≤ v ∧ v ≤ 255 := by
  have key : ∀ b : Int, 0 ≤ b → b ≤ 255 → ∃ v s', F_s_l1Cur_next_vlnJ1 fu p code s b = some (v, s') ∧ 0 ≤ v ∧ v ≤ 255 := by
    intro b b0 b1
    rw [F_s_l1Cur_next_vlnJ1, w64 (x := p + 1) (by omega)]
    by_cases h : p + 1 ≤ (code.length : Int)
    · rw [itd_t h]; exact ⟨_, _, rfl, b0, b1⟩
    · rw [itd_f h]
      generalize IntKind.u64.wrap _ = z
      refine ⟨_, _, rfl, ?_⟩
      have : ∀ y : Int, 0 ≤ bits .and .u64 y 255 ∧ bits .and .u64 y 255 ≤ 255 := by
        intro y
        have e : bits .and .u64 y 255 = IntKind.u64.wrap ((BitVec.ofInt 64 y &&& BitVec.ofInt 64 255).toNat : Int) := rfl
        rw [e, BitVec.toNat_and]
        have : (BitVec.ofInt 64 y).toNat &&& (BitVec.ofInt 64 255).toNat ≤ 255 := Nat.le_trans Nat.and_le_right (by decide)
        rw [wu64 (by omega)]; omega
      have := this (shrI .u64 z 40)
      rw [w64 (by omega)]; exact this
  rw [F_s_l1Cur_next_vln]
  by_cases h : p < (code.length : Int)
  · have hm := hc _ (getD_mem (xs := code) (k := p.toNat) (by omega))
    rw [itd_t h, chk_of ⟨h0, h⟩, w64 (by omega)]
    exact key _ hm.1 hm.2
  · rw [itd_f h]; exact key 0 (by omega) (by omega)

/-- A number is picked. -/
theorem pick_ok (fu : Nat) (n : Int) (code : List Int) (p s : Int) (hc : Bytes code) (hl : code.length ≤ 2000000) (h0 : 0 ≤ p) (h1 : p ≤ 900000000) :
    ∃ v p' s', F_s_l1Cur_pick_vrs fu n code p s = some (v, p', s') ∧ 0 ≤ v ∧ (0 < n → v < n) ∧ p ≤ p' ∧ p' ≤ p + 2 := by
  rw [F_s_l1Cur_pick_vrs]
  by_cases h : n ≤ 1
  · rw [itd_t h]; exact ⟨_, _, _, rfl, by omega, by omega, by omega, by omega⟩
  · rw [itd_f h]
    obtain ⟨v, s1, e, v0, v1⟩ := next_ok fu code p s hc hl h0 (by omega)
    have fin : ∀ (x q t : Int), 0 ≤ x → p ≤ q → q ≤ p + 2 → ∃ v p' s', F_s_l1Cur_pick_vrsJ1 fu n x q t = some (v, p', s') ∧ 0 ≤ v ∧ (0 < n → v < n) ∧ p ≤ p' ∧ p' ≤ p + 2 := by
      intro x q t x0 q0 q1
      rw [F_s_l1Cur_pick_vrsJ1, chk_of (by omega)]
      refine ⟨_, _, _, rfl, Int.tmod_nonneg _ x0, fun hn => Int.tmod_lt_of_pos _ hn, q0, q1⟩
    rw [e, Option.bind_some]
    dsimp only
    rw [w64 (x := p + 1) (by omega)]
    by_cases h2 : n > 200
    · rw [itd_t h2]
      obtain ⟨w, s2, e2, w0, w1⟩ := next_ok fu code (p + 1) s1 hc hl (by omega) (by omega)
      rw [e2, Option.bind_some]
      dsimp only
      rw [w64 (x := v * 256) (by omega), w64 (x := v * 256 + w) (by omega), w64 (x := p + 1 + 1) (by omega)]
      exact fin _ _ _ (by omega) (by omega) (by omega)
    · rw [itd_f h2]; exact fin _ _ _ v0 (by omega) (by omega)
end Pu
end Go.Proofs.Yticeepbgbefmaaa

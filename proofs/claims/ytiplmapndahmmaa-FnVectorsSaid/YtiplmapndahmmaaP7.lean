/- Plain laws: SquaresPlan by the program and by the reference. -/
import Derived.Test.YtiplmapndahmmaaP6
namespace Go.Proofs.Ytiplmapndahmmaa
open Al
set_option linter.unusedVariables false
set_option linter.unusedSimpArgs false
namespace Pu

/-- The squares' steps. -/
def sqS (b : Nat) : List Stp := (List.range (b - 1)).map fun (i : Nat) => (((i : Nat) : Int), ((i : Nat) : Int))
theorem sqS_len (b : Nat) : (sqS b).length = b - 1 := by simp [sqS]
theorem sqS_snoc (b : Nat) (h : 1 ≤ b) : sqS (b + 1) = sqS b ++ [((b : Int) - 1, (b : Int) - 1)] := by
  obtain ⟨c, rfl⟩ : ∃ c, b = c + 1 := ⟨b - 1, by omega⟩
  have : ((c + 1 : Nat) : Int) - 1 = (c : Int) := by omega
  simp [sqS, List.range_succ, this]

/-- One target's digits from place i on. -/
def sIn (p : Int) : Nat → Nat → Int × List Stp → Int × List Stp
  | 0, _, st => st
  | c + 1, i, st => sIn p c (i + 1) (if bit p i = true then (if st.1 < 0 then ((i : Int), st.2) else mulS 1 st.2 st.1 i) else st)
def sOut (b : Nat) : List Int → List Stp × List Int → List Stp × List Int
  | [], r => r
  | p :: ps, r => sOut b ps ((sIn p b 0 (-1, r.1)).2, r.2 ++ [(sIn p b 0 (-1, r.1)).1])

theorem sIn_len (p : Int) : ∀ (c i : Nat) (st : Int × List Stp), (sIn p c i st).2.length ≤ st.2.length + c
  | 0, _, _ => Nat.le_refl _
  | c + 1, i, st => by
    refine Nat.le_trans (sIn_len p c (i + 1) _) ?_
    split
    · split
      · simp
      · rw [mulS_len]; omega
    · omega

theorem bit_zero {p : Int} {i : Nat} (h : p.toNat < 2 ^ i) : bit p i = false := by
  unfold bit; rw [Nat.div_eq_of_lt h]; rfl
theorem sIn_high (p : Int) : ∀ (c i : Nat) (st : Int × List Stp), p.toNat < 2 ^ i → sIn p c i st = st
  | 0, _, _, _ => rfl
  | c + 1, i, st, h => by
    rw [sIn, bit_zero h, if_neg (by simp)]
    exact sIn_high p c (i + 1) st (Nat.lt_of_lt_of_le h (Nat.pow_le_pow_right (by decide) (by omega)))
theorem sIn_add (p : Int) : ∀ (c d i : Nat) (st : Int × List Stp), sIn p (c + d) i st = sIn p d (i + c) (sIn p c i st)
  | 0, d, i, st => by simp [sIn]
  | c + 1, d, i, st => by
    rw [show c + 1 + d = c + d + 1 by omega, sIn, sIn, sIn_add p c d (i + 1), show i + 1 + c = i + (c + 1) by omega]
theorem sIn_short (p : Int) (b : Nat) (h : blen p.toNat ≤ b) (st : Int × List Stp) : sIn p b 0 st = sIn p (blen p.toNat) 0 st := by
  obtain ⟨d, rfl⟩ : ∃ d, b = blen p.toNat + d := ⟨b - blen p.toNat, by omega⟩
  rw [sIn_add, sIn_high]
  rw [Nat.zero_add]; exact (blen_iff _ _).2 (Nat.le_refl _)

def InNum (ps : List Int) : Prop := ∀ x ∈ ps, 1 ≤ x ∧ x ≤ 1000000
theorem InNum.pow {ps : List Int} (h : InNum ps) : InPow ps := fun x hx => ⟨by have := h x hx; omega, (h x hx).2⟩

/-- The squares' values. -/
def sqV (b : Nat) : List Int := (List.range b).map fun (i : Nat) => ((i : Nat) : Int)
theorem sqV_len (b : Nat) : (sqV b).length = b := by simp [sqV]
theorem sqV_get (b i : Nat) (h : i < b) : (sqV b).getD i 0 = (i : Int) := by
  simp [sqV, List.getD_eq_getElem?_getD, List.getElem?_range h]
theorem sqV_snoc (b : Nat) : sqV (b + 1) = sqV b ++ [(b : Int)] := by simp [sqV, List.range_succ]

def sqp (ts : List Int) : Tell :=
  if inR 1 6 ts.length = true ∧ ts.all (inR 1 1000000) = true then
    tellP 1 (sOut (blen (mx ts).toNat) ts (sqS (blen (mx ts).toNat), [])).1 (sOut (blen (mx ts).toNat) ts (sqS (blen (mx ts).toNat), [])).2
  else (false, 0, [], [])

theorem F_slices_ContainsFunc_Lint_int_ils_eq (fu : Nat) (xs : List Int) (hx : xs.length ≤ 1000000000) (hf : xs.length < fu) : F_slices_ContainsFunc_Lint_int_ils fu xs = some (xs.any (fun x => !inR 1 1000000 x)) := by
  obtain ⟨r, e, hr⟩ : ∃ r, F_slices_IndexFunc_Lint_int_ils fu xs = some r ∧ decide (r ≥ 0) = xs.any (fun x => !inR 1 1000000 x) := by
    unfold F_slices_IndexFunc_Lint_int_ils
    refine scan_find (L := F_slices_IndexFunc_Lint_int_ilsL2 fu xs) xs 0 _ (fun k i h0 h => ?_) (fun n => ?_) fu 0 (by omega) (by omega) (by omega)
    · simp (disch := omega) only [F_slices_IndexFunc_Lint_int_ilsL2, itd_t, chk_of, F_i_SquaresPlan_c1, F_i_isNumber_eq, Option.bind_some, w64]
    · simp (disch := omega) only [F_slices_IndexFunc_Lint_int_ilsL2, itd_f, F_slices_IndexFunc_Lint_int_ilsJ1]
  simp only [F_slices_ContainsFunc_Lint_int_ils, e, Option.bind_some, hr]

theorem F_i_SquaresPlanL6_eq (fu : Nat) (ts : List Int) (b : Nat) (q : Int) (K : Int → Int → Int → Int → List Int → List Int → List Stp → Option Tell) (l o : Int) (os : List Int) (p : Int) (hp : ts.getD q.toNat 0 = p) (h1 : 1 ≤ p) (h2 : p ≤ 1000000) (hq : 0 ≤ q ∧ q ≤ 100) (hb : b ≤ 20) (hos : os.length ≤ 100) :
    ∀ (m c i : Nat) (at_ : Int) (ss : List Stp), i + c = b → c < m → ss.length + c ≤ 1000 →
      F_i_SquaresPlanL6 fu (sqV b) ts q 1 K l o os m at_ (i : Int) ss = K l (q + 1) o 1 (sqV b) (os ++ [(sIn p c i (at_, ss)).1]) (sIn p c i (at_, ss)).2 := by
  intro m
  induction m with
  | zero => intros; omega
  | succ m ih =>
    intro c i at_ ss hi hc hs
    cases c with
    | zero =>
      rw [F_i_SquaresPlanL6, sqV_len, itd_f (by omega), F_i_SquaresPlanJ5, chk_of (by simp only [List.length_append, List.length_cons, List.length_nil, List.length_replicate, List.length_set, List.length_map, List.length_range, List.length_take, List.length_drop, List.length_zipWith, List.length_reverse]; omega), F_i_SquaresPlanJ4, w64 (by omega)]
      rfl
    | succ c =>
      have hn := sqV_get b i (by omega)
      rw [F_i_SquaresPlanL6, sqV_len, itd_t (by omega), chk_of (by omega), chk_of (by omega), hp, bit_and (by omega) (by omega) (by omega), Int.toNat_natCast, hn]
      have e1 : ∀ x y z, F_i_SquaresPlanJ7 fu (F_i_SquaresPlanL6 fu (sqV b) ts q 1 K l o os m) x y z = F_i_SquaresPlanL6 fu (sqV b) ts q 1 K l o os m y (IntKind.i64.wrap (x + 1)) z := fun _ _ _ => rfl
      simp only [e1]
      rw [w64 (by omega), show (i : Int) + 1 = ((i + 1 : Nat) : Int) by omega, sIn]
      cases hbit : bit p i with
      | false =>
        simp only [Bool.false_eq_true, if_false]
        exact ih c (i + 1) at_ ss (by omega) (by omega) (by omega)
      | true =>
        simp only [if_true]
        rw [F_i_maker_times_frg_eq fu _ _ _ _ (by omega) (by omega), Option.bind_some]
        by_cases ha : at_ < 0
        · simp only [if_pos ha]
          exact ih c (i + 1) _ ss (by omega) (by omega) (by omega)
        · simp only [if_neg ha]
          exact ih c (i + 1) _ _ (by omega) (by omega) (by rw [mulS_len]; omega)

theorem F_i_SquaresPlanL3_eq (fu : Nat) (ts : List Int) (b : Nat) (o : Int) (ht : InNum ts) (hl : ts.length ≤ 6) (hb : b ≤ 20) (hf : 1000 ≤ fu) :
    ∀ (m : Nat) (q : Int) (os : List Int) (ss : List Stp), 0 ≤ q → q ≤ (ts.length : Int) → (ts.length : Int) - q < m → os.length ≤ 10 + q.toNat → ss.length + 20 * (ts.length - q.toNat) ≤ 500 →
      F_i_SquaresPlanL3 fu ts m (ts.length : Int) q o 1 (sqV b) os ss = F_i_SquaresPlanJ2 fu o 1 (sOut b (ts.drop q.toNat) (ss, os)).2 (sOut b (ts.drop q.toNat) (ss, os)).1 := by
  intro m
  induction m with
  | zero => intros; omega
  | succ m ih =>
    intro q os ss q0 q1 hm ho hs
    by_cases h : q < (ts.length : Int)
    · have hg := ht _ (getD_mem (xs := ts) (k := q.toNat) (by omega))
      have hlen := sIn_len (ts.getD q.toNat 0) b 0 (-1, ss)
      rw [F_i_SquaresPlanL3, itd_t h, chk_of ⟨q0, h⟩]
      rw [show (0 : Int) = ((0 : Nat) : Int) by rfl, F_i_SquaresPlanL6_eq fu ts b q _ _ o os _ rfl hg.1 hg.2 (by omega) hb (by omega) fu b 0 (-1) ss (by omega) (by omega) (by omega)]
      rw [drop_cons' ts 0 q0 h, sOut]
      exact ih (q + 1) _ _ (by omega) (by omega) (by omega) (by simp only [List.length_append, List.length_cons, List.length_nil, List.length_replicate, List.length_set, List.length_map, List.length_range, List.length_take, List.length_drop, List.length_zipWith, List.length_reverse]; omega) (by dsimp only at hlen ⊢; omega)
    · rw [F_i_SquaresPlanL3, itd_f h, drop_end ts (by omega)]; rfl

theorem F_i_SquaresPlan_eq (fu : Nat) (ts : List Int) (hl : ts.length ≤ 1000) (hf : 2000 ≤ fu) : F_i_SquaresPlan fu ts = some (sqp ts) := by
  unfold F_i_SquaresPlan sqp
  rw [F_i_in_eq, Option.bind_some]
  cases h1 : inR 1 6 (ts.length : Int) with
  | false => simp [gcl_f]
  | true =>
    have h1' := inR_iff.1 h1
    simp only [Bool.not_true, BEq.rfl, gcl_t, F_slices_ContainsFunc_Lint_int_ils_eq fu ts (by omega) (by omega), Option.bind_some, cond_false]
    have e := any_not_all ts (inR 1 1000000)
    cases h2 : ts.any (fun x => !inR 1 1000000 x) with
    | true => rw [h2] at e; simp [← e]
    | false =>
      rw [h2] at e
      have ht : InNum ts := fun x hx => inR_iff.1 (List.all_eq_true.1 e.symm x hx)
      have hb := mx_blen ht.pow
      have hm := mx_nonneg ts
      have hm' := mx_le (m := 1000000) (by omega) fun x hx => (ht x hx).2
      have hb1 : 1 ≤ blen (mx ts).toNat := by
        have : ts.getD 0 0 ∈ ts := getD_mem (by omega)
        have h3 := ht _ this
        have h4 := le_mx this
        exact blen_pos (by omega)
      rw [if_neg (by simp), if_pos ⟨trivial, e.symm⟩, F_i_newMaker_eq, Option.bind_some]
      obtain ⟨b, eb⟩ : ∃ b, blen (mx ts).toNat = b := ⟨_, rfl⟩
      rw [eb] at hb hb1 ⊢
      have key : ∀ (m k : Nat), 1 ≤ k → k ≤ b → b - k < m → F_i_SquaresPlanL8 fu ts m (sqV k) (sqS k) = F_i_SquaresPlanJ1 fu ts 0 1 (sqV b) [] (sqS b) := by
        intro m
        induction m with
        | zero => intros; omega
        | succ m ih =>
          intro k k1 kb hm2
          have hls : (sqS k).length ≤ 20 := by rw [sqS_len]; omega
          rw [F_i_SquaresPlanL8, F_slices_Max_Lint_int_eq fu ts (by omega) (by omega) (by omega) (fun x hx => by have := ht x hx; omega), Option.bind_some, F_bits_Len_eq fu (mx ts) hm (by omega), Option.bind_some, eb, sqV_len]
          by_cases hk : k < b
          · have hn := sqV_get k (k - 1) (by omega)
            rw [itd_t (by omega), w64 (by omega), chk_of (by omega), show ((k : Int) - 1).toNat = k - 1 by omega, hn, F_i_maker_multiply_frg_eq fu _ _ _ _ (by omega) (by omega), Option.bind_some, chk_of (by simp only [List.length_append, List.length_cons, List.length_nil, List.length_replicate, List.length_set, List.length_map, List.length_range, List.length_take, List.length_drop, List.length_zipWith, List.length_reverse]; omega)]
            have e1 : mulS 1 (sqS k) ((k - 1 : Nat) : Int) ((k - 1 : Nat) : Int) = ((k : Int), sqS (k + 1)) := by
              rw [mulS, sqS_len, sqS_snoc k k1, Int.min_self, Int.max_self, show ((k - 1 : Nat) : Int) = (k : Int) - 1 by omega]
              congr 1; omega
            rw [e1]
            simp only []
            rw [← sqV_snoc]
            exact ih (k + 1) (by omega) (by omega) (by omega)
          · have : k = b := by omega
            subst this
            rw [itd_f (by omega)]
      have := key fu 1 (by omega) hb1 (by omega)
      have s1 : sqV 1 = [0] := by simp [sqV]
      have s2 : sqS 1 = [] := by simp [sqS]
      rw [s1, s2] at this
      rw [this, F_i_SquaresPlanJ1]
      rw [F_i_SquaresPlanL3_eq fu ts b 0 ht (by omega) hb (by omega) fu 0 [] _ (by omega) (by omega) (by omega) (by simp) (by rw [sqS_len]; omega), F_i_SquaresPlanJ2]
      simp only [Int.toNat_zero, List.drop_zero]
      rw [F_i_told_eq fu _ _ _ (by omega)]
      rfl

def digs (p : Int) (c : Nat) : List Int := (List.range c).map fun i => if bit p i = true then (1 : Int) else 0
theorem digs_len (p : Int) (c : Nat) : (digs p c).length = c := by simp [digs]
theorem digs_get (p : Int) (c i : Nat) (h : i < c) : (digs p c).getD i 0 = if bit p i = true then (1 : Int) else 0 := by
  simp [digs, List.getD_eq_getElem?_getD, List.getElem?_range h]
theorem digs_snoc (p : Int) (c : Nat) : digs p (c + 1) = digs p c ++ [if bit p c = true then (1 : Int) else 0] := by simp [digs, List.range_succ]

theorem F_s_meDigits_eq (fu : Nat) (p : Int) (h0 : 0 ≤ p) (h1 : p ≤ 1000000) (hf : 1000 ≤ fu) : F_s_meDigits fu p 2 = some (digs p (blen p.toNat)) := by
  have hb : blen p.toNat ≤ 20 := (blen_iff _ 20).1 (by omega)
  have key : ∀ (m i : Nat), i ≤ blen p.toNat → blen p.toNat - i < m → F_s_meDigitsL2 fu 2 m ((p.toNat / 2 ^ i : Nat) : Int) (digs p i) = some (digs p (blen p.toNat)) := by
    intro m
    induction m with
    | zero => intros; omega
    | succ m ih =>
      intro i hi hm
      have hle : p.toNat / 2 ^ i ≤ p.toNat := Nat.div_le_self _ _
      rw [F_s_meDigitsL2]
      by_cases hc : i < blen p.toNat
      · have hpos : 0 < p.toNat / 2 ^ i := by
          have h2 : ¬ p.toNat < 2 ^ i := by rw [blen_iff]; omega
          exact Nat.div_pos (by omega) (Nat.two_pow_pos _)
        have e1 : Int.tmod ((p.toNat / 2 ^ i : Nat) : Int) 2 = if bit p i = true then (1 : Int) else 0 := by
          rw [show (2 : Int) = ((2 : Nat) : Int) by rfl, tmod_nat, bit]
          generalize p.toNat / 2 ^ i = y
          rcases Nat.mod_two_eq_zero_or_one y with h | h <;> rw [h] <;> rfl
        have e2 : IntKind.i64.wrap (Int.tdiv ((p.toNat / 2 ^ i : Nat) : Int) 2) = ((p.toNat / 2 ^ (i + 1) : Nat) : Int) := by
          rw [Nat.pow_succ, ← Nat.div_div_eq_div_mul]
          generalize p.toNat / 2 ^ i = y at *
          rw [Int.tdiv_eq_ediv_of_nonneg (by omega), w64 (by omega)]; omega
        rw [itd_t (by omega), chk_of ⟨by decide, by rw [digs_len]; simp only [List.length_append, List.length_cons, List.length_nil, List.length_replicate, List.length_set, List.length_map, List.length_range, List.length_take, List.length_drop, List.length_zipWith, List.length_reverse]; omega⟩, chk_of (by decide), e1, e2, ← digs_snoc]
        exact ih (i + 1) (by omega) (by omega)
      · have : i = blen p.toNat := by omega
        have hz : p.toNat / 2 ^ i = 0 := Nat.div_eq_of_lt ((blen_iff _ _).2 (by omega))
        rw [itd_f (by omega), F_s_meDigitsJ1, this]
  unfold F_s_meDigits
  have := key fu 0 (by omega) (by omega)
  rw [Nat.pow_zero, Nat.div_one, Int.toNat_of_nonneg h0] at this
  exact this

theorem F_s_SquaresPlanL6_eq (fu : Nat) (b : Nat) (K : Int → Int → Int → Int → List Stp → List Int → Option Tell) (l q o : Int) (os : List Int) (p : Int) (hb : b ≤ 20) (hos : os.length ≤ 100) (hq : 0 ≤ q ∧ q ≤ 100) :
    ∀ (m c i : Nat) (at_ : Int) (ss : List Stp), i + c = b → c < m → ss.length + c ≤ 1000 →
      F_s_SquaresPlanL6 fu (digs p b) 1 K l q o os m at_ (i : Int) ss = K l (q + 1) o 1 (sIn p c i (at_, ss)).2 (os ++ [(sIn p c i (at_, ss)).1]) := by
  intro m
  induction m with
  | zero => intros; omega
  | succ m ih =>
    intro c i at_ ss hi hc hs
    cases c with
    | zero =>
      rw [F_s_SquaresPlanL6, digs_len, itd_f (by omega), F_s_SquaresPlanJ5, chk_of (by simp only [List.length_append, List.length_cons, List.length_nil, List.length_replicate, List.length_set, List.length_map, List.length_range, List.length_take, List.length_drop, List.length_zipWith, List.length_reverse]; omega), F_s_SquaresPlanJ4, w64 (by omega)]
      rfl
    | succ c =>
      have hn := digs_get p b i (by omega)
      rw [F_s_SquaresPlanL6, digs_len, itd_t (by omega), chk_of (by omega), Int.toNat_natCast, hn]
      have e1 : ∀ x y z, F_s_SquaresPlanJ7 fu (F_s_SquaresPlanL6 fu (digs p b) 1 K l q o os m) x y z = F_s_SquaresPlanL6 fu (digs p b) 1 K l q o os m y (IntKind.i64.wrap (x + 1)) z := fun _ _ _ => rfl
      simp only [e1]
      rw [w64 (by omega), show (i : Int) + 1 = ((i + 1 : Nat) : Int) by omega, sIn]
      cases hbit : bit p i with
      | false =>
        have z : ((if false = true then (1 : Int) else 0) == 1) = false := by rfl
        simp only [z, cond_false, Bool.false_eq_true, if_false]
        exact ih c (i + 1) at_ ss (by omega) (by omega) (by omega)
      | true =>
        simp only [if_true]
        rw [show ((1 : Int) == 1) = true by rfl]
        simp only [cond_true, if_true]
        by_cases ha : at_ < 0
        · rw [itd_f (by omega)]
          simp only [if_pos ha]
          exact ih c (i + 1) _ ss (by omega) (by omega) (by omega)
        · rw [itd_t (by omega), F_s_meTimes_eq fu _ _ _ _ _ (by omega) (by omega), Option.bind_some]
          simp only [if_neg ha]
          exact ih c (i + 1) _ _ (by omega) (by omega) (by rw [mulS_len]; omega)

theorem F_s_SquaresPlanL3_eq (fu : Nat) (ts : List Int) (b : Nat) (o : Int) (ht : InNum ts) (hl : ts.length ≤ 6) (hb : b ≤ 20) (hbt : ∀ p ∈ ts, blen p.toNat ≤ b) (hf : 1000 ≤ fu) :
    ∀ (m : Nat) (q : Int) (os : List Int) (ss : List Stp), 0 ≤ q → q ≤ (ts.length : Int) → (ts.length : Int) - q < m → os.length ≤ 10 + q.toNat → ss.length + 20 * (ts.length - q.toNat) ≤ 500 →
      F_s_SquaresPlanL3 fu ts m (ts.length : Int) q o 1 ss os = F_s_SquaresPlanJ2 fu o 1 (sOut b (ts.drop q.toNat) (ss, os)).1 (sOut b (ts.drop q.toNat) (ss, os)).2 := by
  intro m
  induction m with
  | zero => intros; omega
  | succ m ih =>
    intro q os ss q0 q1 hm ho hs
    by_cases h : q < (ts.length : Int)
    · have hmem := getD_mem (xs := ts) (k := q.toNat) (by omega)
      have hg := ht _ hmem
      have hpb := hbt _ hmem
      have hlen := sIn_len (ts.getD q.toNat 0) b 0 (-1, ss)
      rw [F_s_SquaresPlanL3, itd_t h, chk_of ⟨q0, h⟩, F_s_meDigits_eq fu _ (by omega) (by omega) hf, Option.bind_some]
      have := F_s_SquaresPlanL6_eq fu (blen (ts.getD q.toNat 0).toNat) (F_s_SquaresPlanL3 fu ts m) (ts.length : Int) q o os (ts.getD q.toNat 0) (by omega) (by omega) (by omega) fu (blen (ts.getD q.toNat 0).toNat) 0 (-1) ss (by omega) (by omega) (by omega)
      rw [← sIn_short _ b hpb] at this
      refine Eq.trans this ?_
      rw [drop_cons' ts 0 q0 h, sOut]
      exact ih (q + 1) _ _ (by omega) (by omega) (by omega) (by simp only [List.length_append, List.length_cons, List.length_nil, List.length_replicate, List.length_set, List.length_map, List.length_range, List.length_take, List.length_drop, List.length_zipWith, List.length_reverse]; omega) (by dsimp only at hlen ⊢; omega)
    · rw [F_s_SquaresPlanL3, itd_f h, drop_end ts (by omega)]; rfl

theorem F_s_SquaresPlan_eq (fu : Nat) (ts : List Int) (hl : ts.length ≤ 1000) (hf : 2000 ≤ fu) : F_s_SquaresPlan fu ts = some (sqp ts) := by
  unfold F_s_SquaresPlan sqp
  rw [F_s_l1In_eq, Option.bind_some]
  cases h1 : inR 1 6 (ts.length : Int) with
  | false => simp [gcl_f]
  | true =>
    have h1' := inR_iff.1 h1
    simp only [Bool.not_true, BEq.rfl, gcl_t, F_s_l1All_eq fu ts _ _ (by omega) (by omega), Option.bind_some, cond_false]
    cases e : ts.all (inR 1 1000000) with
    | false => simp
    | true =>
      have ht : InNum ts := fun x hx => inR_iff.1 (List.all_eq_true.1 e x hx)
      have hb := mx_blen ht.pow
      have hm := mx_nonneg ts
      have hm' := mx_le (m := 1000000) (by omega) fun x hx => (ht x hx).2
      have hb1 : 1 ≤ blen (mx ts).toNat := by
        have : ts.getD 0 0 ∈ ts := getD_mem (by omega)
        have h3 := ht _ this
        have h4 := le_mx this
        exact blen_pos (by omega)
      have hbt : ∀ p ∈ ts, blen p.toNat ≤ blen (mx ts).toNat := fun p hp => blen_mono (by have := le_mx hp; omega)
      rw [if_neg (by simp), if_pos ⟨trivial, rfl⟩]
      obtain ⟨b, eb⟩ : ∃ b, blen (mx ts).toNat = b := ⟨_, rfl⟩
      rw [eb] at hb hb1 hbt ⊢
      have key : ∀ (m k : Nat), 1 ≤ k → k ≤ b → b - k < m → F_s_SquaresPlanL8 fu ts m (k : Int) (sqS k) = F_s_SquaresPlanJ1 fu ts 0 1 (sqS b) := by
        intro m
        induction m with
        | zero => intros; omega
        | succ m ih =>
          intro k k1 kb hm2
          have hls : (sqS k).length ≤ 20 := by rw [sqS_len]; omega
          rw [F_s_SquaresPlanL8, F_s_meGreatest_eq fu ts (by omega) (by omega), Option.bind_some, F_s_chLength_eq fu (mx ts) hm (by omega) (by omega), Option.bind_some, eb]
          by_cases hk : k < b
          · rw [itd_t (by omega), w64 (by omega), F_s_meTimes_eq fu _ _ _ _ _ (by omega) (by omega), Option.bind_some]
            have e1 : mulS 1 (sqS k) ((k : Int) - 1) ((k : Int) - 1) = ((k : Int), sqS (k + 1)) := by
              rw [mulS, sqS_len, sqS_snoc k k1, Int.min_self, Int.max_self]
              congr 1; omega
            rw [e1]
            simp only []
            rw [w64 (by omega), show (k : Int) + 1 = ((k + 1 : Nat) : Int) by omega]
            exact ih (k + 1) (by omega) (by omega) (by omega)
          · have : k = b := by omega
            subst this
            rw [itd_f (by omega)]
      have := key fu 1 (by omega) hb1 (by omega)
      have s2 : sqS 1 = [] := by simp [sqS]
      rw [s2] at this
      refine Eq.trans this ?_
      rw [F_s_SquaresPlanJ1]
      rw [F_s_SquaresPlanL3_eq fu ts b 0 ht (by omega) hb hbt (by omega) fu 0 [] _ (by omega) (by omega) (by omega) (by simp) (by rw [sqS_len]; omega), F_s_SquaresPlanJ2]
      simp only [Int.toNat_zero, List.drop_zero]
      rw [F_s_plIf_eq fu _ _ _ (by omega)]
      rfl
end Pu
end Go.Proofs.Ytiplmapndahmmaa

/- Plain laws: a plan for several powers has them as exponents, and its cost. -/
import Derived.Test.YticeepbgbefmaaaP3
namespace Go.Proofs.Yticeepbgbefmaaa
open Al
set_option linter.unusedVariables false
set_option linter.unusedSimpArgs false
namespace Pu

theorem stepsOk_snoc : ∀ (ss : List Stp) (m : Int) (s : Stp), stepsOk m (ss ++ [s]) = (stepsOk m ss && decide (0 ≤ s.1 ∧ s.1 ≤ s.2 ∧ s.2 < m + ss.length))
  | [], m, s => by simp [stepsOk]
  | t :: ss, m, s => by
    rw [List.cons_append, stepsOk, stepsOk_snoc ss, stepsOk, Bool.and_assoc]
    congr 3
    simp only [List.length_append, List.length_cons, List.length_nil, List.length_replicate, List.length_set, List.length_map, List.length_range, List.length_take, List.length_drop, List.length_zipWith, List.length_reverse, eq_iff_iff]; omega
theorem expsF_snoc (rs : List (List Int)) (ss : List Stp) (s : Stp) : expsF rs (ss ++ [s]) = expsF rs ss ++ [addR ((expsF rs ss).getD s.1.toNat []) ((expsF rs ss).getD s.2.toNat [])] := by
  simp [expsF, List.foldl_append]
theorem exps_snoc (n : Int) (ss : List Stp) (s : Stp) : exps n (ss ++ [s]) = exps n ss ++ [addR ((exps n ss).getD s.1.toNat []) ((exps n ss).getD s.2.toNat [])] := expsF_snoc _ _ _
theorem getD_append_left {α : Type} (xs ys : List α) (d : α) {i : Nat} (h : i < xs.length) : (xs ++ ys).getD i d = xs.getD i d := by
  simp [List.getD_eq_getElem?_getD, List.getElem?_append_left h]
theorem getD_append_last {α : Type} (xs : List α) (y d : α) {i : Nat} (h : i = xs.length) : (xs ++ [y]).getD i d = y := by
  subst h; simp [List.getD_eq_getElem?_getD]
theorem expsF_prefix (ss : List Stp) : ∀ (rs : List (List Int)) (i : Nat), i < rs.length → (expsF rs ss).getD i [] = rs.getD i [] := by
  induction ss with
  | nil => intros; rfl
  | cons s ss ih =>
    intro rs i hi
    show (expsF (rs ++ [_]) ss).getD i [] = _
    rw [ih _ i (by simp only [List.length_append, List.length_cons, List.length_nil, List.length_replicate, List.length_set, List.length_map, List.length_range, List.length_take, List.length_drop, List.length_zipWith, List.length_reverse]; omega), getD_append_left _ _ _ hi]
theorem exps_unit (n : Nat) (ss : List Stp) {k : Nat} (hk : k < n) : (exps (n : Int) ss).getD k [] = unitR n k := by
  unfold exps
  rw [expsF_prefix _ _ _ (by simp [unitRows]; omega)]
  simp [unitRows, List.getD_eq_getElem?_getD, List.getElem?_map, List.getElem?_range hk]
theorem exps_len (n : Nat) : ∀ (ss : List Stp), (exps (n : Int) ss).length = n + ss.length := by
  have : ∀ (ss : List Stp) (rs : List (List Int)), (expsF rs ss).length = rs.length + ss.length := by
    intro ss
    induction ss with
    | nil => intro rs; rfl
    | cons s ss ih => intro rs; show (expsF (rs ++ [_]) ss).length = _; rw [ih]; simp only [List.length_append, List.length_cons, List.length_nil, List.length_replicate, List.length_set, List.length_map, List.length_range, List.length_take, List.length_drop, List.length_zipWith, List.length_reverse]; omega
  intro ss; unfold exps; rw [this]; simp [unitRows]

theorem addR_comm (a b : List Int) : addR a b = addR b a := by
  unfold addR; rw [List.zipWith_comm]; simp only [Int.add_comm]

/-- One more of an input. -/
theorem addR_unit {n k : Nat} {es : List Int} (hl : es.length = n) (hk : k < n) (hr : ∀ e ∈ es, 0 ≤ e ∧ e ≤ 1000000) : addR es (unitR n k) = es.set k (es.getD k 0 + 1) := by
  apply List.ext_getElem
  · simp [addR, unitR, hl]
  · intro i h1 h2
    have hi : i < es.length := by simpa using h2
    have he := hr _ (List.getElem_mem hi)
    simp only [addR, List.getElem_zipWith, unitR, List.getElem_set, List.getElem_replicate]
    by_cases hik : k = i
    · subst hik
      simp only [if_true, List.getD_eq_getElem?_getD, List.getElem?_eq_getElem hi, Option.getD_some]; omega
    · simp only [if_neg hik]; omega

theorem addR_double {es : List Int} (hr : ∀ e ∈ es, 0 ≤ e ∧ 2 * e ≤ 1000000) : addR es es = es.map (2 * ·) := by
  unfold addR
  rw [List.zipWith_self]
  apply List.map_congr_left
  intro e he; have := hr e he; omega

def popc (n : Nat) : Nat := if h : n = 0 then 0 else n % 2 + popc (n / 2)
termination_by n
decreasing_by omega
theorem popc_zero : popc 0 = 0 := by unfold popc; rfl
theorem popc_double (n : Nat) : popc (2 * n) = popc n := by
  by_cases h : n = 0
  · subst h; rfl
  · rw [popc, dif_neg (by omega)]
    rw [show 2 * n % 2 = 0 by omega, show 2 * n / 2 = n by omega, Nat.zero_add]
theorem popc_odd (n : Nat) : popc (2 * n + 1) = popc n + 1 := by
  rw [popc, dif_neg (by omega), show (2 * n + 1) % 2 = 1 by omega, show (2 * n + 1) / 2 = n by omega, Nat.add_comm]
def cnt (es : List Int) : Nat := (es.map fun e => popc e.toNat).sum
theorem cnt_cons (e : Int) (es : List Int) : cnt (e :: es) = popc e.toNat + cnt es := by simp [cnt]
theorem cnt_nil : cnt [] = 0 := rfl
theorem cnt_double : ∀ {es : List Int}, (∀ e ∈ es, 0 ≤ e) → cnt (es.map (2 * ·)) = cnt es
  | [], _ => rfl
  | e :: es, h => by
    have := h e (List.mem_cons_self)
    rw [List.map_cons, cnt_cons, cnt_cons, cnt_double fun x hx => h x (List.mem_cons_of_mem _ hx), show (2 * e).toNat = 2 * e.toNat by omega, popc_double]
theorem cnt_set : ∀ {es : List Int} {k : Nat}, k < es.length → 0 ≤ es.getD k 0 → es.getD k 0 % 2 = 0 → cnt (es.set k (es.getD k 0 + 1)) = cnt es + 1
  | e :: es, 0, _, h0, h2 => by
    simp only [List.getD_cons_zero] at h0 h2 ⊢
    rw [List.set_cons_zero, cnt_cons, cnt_cons, show (e + 1).toNat = 2 * (e.toNat / 2) + 1 by omega, popc_odd]
    have : popc e.toNat = popc (e.toNat / 2) := by rw [← popc_double (e.toNat / 2)]; congr 1; omega
    omega
  | e :: es, k + 1, hk, h0, h2 => by
    simp only [List.getD_cons_succ] at h0 h2 ⊢
    rw [List.set_cons_succ, cnt_cons, cnt_cons, cnt_set (by simpa using hk) h0 h2]; omega
  | [], k, hk, _, _ => by simp at hk

structure TInv (n : Nat) (es : List Int) (q : Nat) (st : Int × List Stp) : Prop where
  len : es.length = n
  ok : stepsOk n st.2 = true
  rng : ∀ e ∈ es, 0 ≤ e ∧ e ≤ 1000000
  neg : st.1 < 0 → (∀ e ∈ es, e = 0) ∧ st.2 = [] ∧ q = 0
  pos : 0 ≤ st.1 → st.1 < n + st.2.length ∧ (exps n st.2).getD st.1.toNat [] = es ∧ st.2.length + 1 = q + cnt es

theorem getD_mem {xs : List Int} {k : Nat} (h : k < xs.length) : xs.getD k 0 ∈ xs := by
  rw [List.getD_eq_getElem?_getD, List.getElem?_eq_getElem h]; exact List.getElem_mem h

theorem cnt_zero {es : List Int} (h : ∀ e ∈ es, e = 0) : cnt es = 0 := by
  induction es with
  | nil => rfl
  | cons e es ih => rw [cnt_cons, ih fun x hx => h x (List.mem_cons_of_mem _ hx), h e (List.mem_cons_self)]; exact popc_zero

theorem TInv.mul {n : Nat} {es : List Int} {q : Nat} {st : Int × List Stp} (h : TInv n es q st) {k : Nat} (hk : k < n) (h1 : es.getD k 0 + 1 ≤ 1000000) (h2 : es.getD k 0 % 2 = 0) :
    TInv n (es.set k (es.getD k 0 + 1)) q (if st.1 < 0 then ((k : Int), st.2) else mulS n st.2 st.1 k) ∧ 0 ≤ (if st.1 < 0 then ((k : Int), st.2) else mulS n st.2 st.1 k).1 := by
  have hke : k < es.length := by rw [h.len]; exact hk
  have hg := h.rng _ (getD_mem hke)
  have hrng : ∀ e ∈ es.set k (es.getD k 0 + 1), 0 ≤ e ∧ e ≤ 1000000 := by
    intro e he
    rcases List.mem_or_eq_of_mem_set he with he | rfl
    · exact h.rng e he
    · omega
  by_cases ha : st.1 < 0
  · obtain ⟨z, hs, hq⟩ := h.neg ha
    rw [if_pos ha]
    refine ⟨⟨by simp [h.len], h.ok, hrng, fun hc => by simp at hc; omega, fun _ => ⟨by simp only [hs]; simp; omega, ?_, ?_⟩⟩, by simp⟩
    · show (exps n st.2).getD (k : Int).toNat [] = _
      rw [Int.toNat_natCast, exps_unit n _ hk, z _ (getD_mem hke)]
      have : es = List.replicate n 0 := List.eq_replicate_iff.2 ⟨h.len, z⟩
      rw [this]; rfl
    · rw [hs, cnt_set hke hg.1 h2, cnt_zero z, hq]; rfl
  · obtain ⟨p1, p2, p3⟩ := h.pos (by omega)
    rw [if_neg ha]
    have hmn : 0 ≤ min st.1 (k : Int) ∧ min st.1 (k : Int) ≤ max st.1 (k : Int) ∧ max st.1 (k : Int) < n + st.2.length := by omega
    refine ⟨⟨by simp [h.len], ?_, hrng, fun hc => by simp [mulS] at hc; omega, fun _ => ⟨?_, ?_, ?_⟩⟩, by simp [mulS]; omega⟩
    · simp only [mulS]; rw [stepsOk_snoc, h.ok, decide_eq_true hmn]; rfl
    · simp only [mulS, List.length_append, List.length_cons, List.length_nil, List.length_replicate, List.length_set, List.length_map, List.length_range, List.length_take, List.length_drop, List.length_zipWith, List.length_reverse]; omega
    · simp only [mulS]
      rw [exps_snoc, getD_append_last _ _ _ (by rw [exps_len]; omega), ← addR_unit h.len hk h.rng]
      dsimp only
      rcases Int.le_total st.1 (k : Int) with hle | hle
      · rw [Int.min_eq_left hle, Int.max_eq_right hle, Int.toNat_natCast, p2, exps_unit n _ hk]
      · rw [Int.min_eq_right hle, Int.max_eq_left hle, Int.toNat_natCast, p2, exps_unit n _ hk, addR_comm]
    · simp only [mulS, List.length_append, List.length_cons, List.length_nil, List.length_replicate, List.length_set, List.length_map, List.length_range, List.length_take, List.length_drop, List.length_zipWith, List.length_reverse]; rw [cnt_set hke hg.1 h2]; omega

theorem TInv.sq {n : Nat} {es : List Int} {q : Nat} {st : Int × List Stp} (h : TInv n es q st) (h2 : ∀ e ∈ es, 2 * e ≤ 1000000) :
    TInv n (es.map (2 * ·)) (if 0 ≤ st.1 then q + 1 else q) (tSq n st) ∧ (0 ≤ st.1 → 0 ≤ (tSq n st).1) := by
  have hrng : ∀ e ∈ es.map (2 * ·), 0 ≤ e ∧ e ≤ 1000000 := by
    intro e he
    obtain ⟨x, hx, rfl⟩ := List.mem_map.1 he
    have := h.rng x hx; have := h2 x hx; omega
  by_cases ha : 0 ≤ st.1
  · obtain ⟨p1, p2, p3⟩ := h.pos ha
    rw [if_pos ha, tSq, if_pos ha]
    refine ⟨⟨by simp [h.len], ?_, hrng, fun hc => by simp [mulS] at hc; omega, fun _ => ⟨?_, ?_, ?_⟩⟩, fun _ => by simp [mulS]; omega⟩
    · simp only [mulS]; rw [stepsOk_snoc, h.ok, decide_eq_true (by omega)]; rfl
    · simp only [mulS, List.length_append, List.length_cons, List.length_nil, List.length_replicate, List.length_set, List.length_map, List.length_range, List.length_take, List.length_drop, List.length_zipWith, List.length_reverse]; omega
    · simp only [mulS]
      rw [exps_snoc, getD_append_last _ _ _ (by rw [exps_len]; omega)]
      dsimp only
      rw [Int.min_self, Int.max_self, p2, addR_double fun e he => ⟨(h.rng e he).1, h2 e he⟩]
    · simp only [mulS, List.length_append, List.length_cons, List.length_nil, List.length_replicate, List.length_set, List.length_map, List.length_range, List.length_take, List.length_drop, List.length_zipWith, List.length_reverse]; rw [cnt_double fun e he => (h.rng e he).1]; omega
  · obtain ⟨z, hs, hq⟩ := h.neg (by omega)
    rw [if_neg ha, tSq, if_neg (by omega)]
    refine ⟨⟨by simp [h.len], h.ok, hrng, fun hc => ⟨?_, hs, hq⟩, fun hc => absurd hc ha⟩, fun hc => absurd hc ha⟩
    intro e he
    obtain ⟨x, hx, rfl⟩ := List.mem_map.1 he
    rw [z x hx]; rfl

/-- The number of the digits from place i on. -/
def sh (i : Nat) (p : Int) : Int := ((p.toNat / 2 ^ i : Nat) : Int)
theorem sh_succ (i : Nat) (p : Int) : sh i p = 2 * sh (i + 1) p + (if bit p i = true then 1 else 0) := by
  unfold sh bit
  rw [Nat.pow_succ, ← Nat.div_div_eq_div_mul]
  generalize p.toNat / 2 ^ i = y
  by_cases h : y % 2 = 1
  · simp [h]; omega
  · simp [h]; omega
theorem sh_le {p : Int} (h0 : 0 ≤ p) (i : Nat) : 0 ≤ sh i p ∧ sh i p ≤ p := by
  unfold sh; have : p.toNat / 2 ^ i ≤ p.toNat := Nat.div_le_self _ _; generalize p.toNat / 2 ^ i = y at *; omega

theorem getD_mid (A : List Int) (b : Int) (C : List Int) : (A ++ b :: C).getD A.length 0 = b := by simp [List.getD_eq_getElem?_getD]
theorem set_mid (A : List Int) (b c : Int) (C : List Int) : (A ++ b :: C).set A.length c = A ++ c :: C := by simp

theorem tIn_inv {n : Nat} (i : Nat) : ∀ (r done : List Int) (q : Nat) (st : Int × List Stp), done.length + r.length = n → InPow done → InPow r →
    TInv n (done.map (sh i) ++ r.map (fun p => 2 * sh (i + 1) p)) q st →
    TInv n ((done ++ r).map (sh i)) q (tIn n i r done.length st) ∧ (0 ≤ st.1 → 0 ≤ (tIn n i r done.length st).1)
  | [], done, q, st, _, _, _, h => by
    simp only [List.map_nil, List.append_nil] at h ⊢
    exact ⟨h, fun h => h⟩
  | p :: r, done, q, st, hl, hd, hr, h => by
    have hp := hr p (List.mem_cons_self)
    have hkl : done.length < n := by simp only [List.length_append, List.length_cons, List.length_nil, List.length_replicate, List.length_set, List.length_map, List.length_range, List.length_take, List.length_drop, List.length_zipWith, List.length_reverse] at hl; omega
    have hsl := sh_le hp.1 i
    have hss := sh_succ i p
    have e2 : (done ++ [p]).length = done.length + 1 := by simp
    have hd' : InPow (done ++ [p]) := by
      intro x hx
      rcases List.mem_append.1 hx with hx | hx
      · exact hd x hx
      · rw [List.mem_singleton.1 hx]; exact hp
    rw [List.map_cons] at h
    have key : ∀ st' : Int × List Stp, TInv n (done.map (sh i) ++ sh i p :: r.map (fun p => 2 * sh (i + 1) p)) q st' →
        TInv n ((done ++ p :: r).map (sh i)) q (tIn n i r (done.length + 1) st') ∧ (0 ≤ st'.1 → 0 ≤ (tIn n i r (done.length + 1) st').1) := by
      intro st' h'
      have := tIn_inv (n := n) i r (done ++ [p]) q st' (by simp only [List.length_append, List.length_cons, List.length_nil, List.length_replicate, List.length_set, List.length_map, List.length_range, List.length_take, List.length_drop, List.length_zipWith, List.length_reverse] at hl ⊢; omega) hd' (fun x hx => hr x (List.mem_cons_of_mem _ hx)) (by rw [List.map_append, List.append_assoc]; exact h')
      rw [e2, List.append_assoc] at this
      exact this
    rw [tIn]
    by_cases hb : bit p i = true
    · rw [if_pos hb]
      rw [if_pos hb] at hss
      have g : (done.map (sh i) ++ 2 * sh (i + 1) p :: r.map (fun p => 2 * sh (i + 1) p)).getD done.length 0 = 2 * sh (i + 1) p := by
        have := getD_mid (done.map (sh i)) (2 * sh (i + 1) p) (r.map (fun p => 2 * sh (i + 1) p))
        rwa [List.length_map] at this
      have hm := h.mul (k := done.length) hkl (by rw [g]; omega) (by rw [g]; omega)
      rw [g, ← hss] at hm
      have s : (done.map (sh i) ++ 2 * sh (i + 1) p :: r.map (fun p => 2 * sh (i + 1) p)).set done.length (sh i p) = done.map (sh i) ++ sh i p :: r.map (fun p => 2 * sh (i + 1) p) := by
        have := set_mid (done.map (sh i)) (2 * sh (i + 1) p) (sh i p) (r.map (fun p => 2 * sh (i + 1) p))
        rwa [List.length_map] at this
      rw [s] at hm
      have := key _ hm.1
      exact ⟨this.1, fun _ => this.2 hm.2⟩
    · rw [if_neg hb]
      rw [if_neg hb] at hss
      exact key st (by rw [hss, Int.add_zero]; exact h)

theorem tRound_inv {n : Nat} (i : Nat) (ps : List Int) (q : Nat) (st : Int × List Stp) (hl : ps.length = n) (hp : InPow ps) (h : TInv n (ps.map (sh (i + 1))) q st) :
    TInv n (ps.map (sh i)) (if 0 ≤ st.1 then q + 1 else q) (tIn n i ps 0 (tSq n st)) ∧ (0 ≤ st.1 → 0 ≤ (tIn n i ps 0 (tSq n st)).1) := by
  have h2 : ∀ e ∈ ps.map (sh (i + 1)), 2 * e ≤ 1000000 := by
    intro e he
    obtain ⟨x, hx, rfl⟩ := List.mem_map.1 he
    have h1 := sh_succ i x
    have h2 := sh_le (hp x hx).1 i
    have := (hp x hx).2
    split at h1 <;> omega
  have hs := h.sq h2
  rw [List.map_map] at hs
  have := tIn_inv (n := n) i ps [] _ _ (by simp [hl]) (fun x hx => by cases hx) hp (by simpa [Function.comp_def] using hs.1)
  simp only [List.nil_append, List.length_nil] at this
  exact ⟨this.1, fun h0 => this.2 (hs.2 h0)⟩

theorem tOut_inv {n : Nat} (ps : List Int) (hl : ps.length = n) (hp : InPow ps) : ∀ (i : Nat) (q : Nat) (st : Int × List Stp), 0 ≤ st.1 → TInv n (ps.map (sh i)) q st → TInv n (ps.map (sh 0)) (q + i) (tOut n ps i st) ∧ 0 ≤ (tOut n ps i st).1
  | 0, q, st, h0, h => ⟨h, h0⟩
  | i + 1, q, st, h0, h => by
    have hr := tRound_inv i ps q st hl hp h
    rw [if_pos h0] at hr
    have := tOut_inv ps hl hp i (q + 1) _ (hr.2 h0) hr.1
    rw [show q + 1 + i = q + (i + 1) by omega] at this
    exact this

theorem map_sh0 {ps : List Int} (hp : InPow ps) : ps.map (sh 0) = ps := by
  have : ps.map (sh 0) = ps.map id := List.map_congr_left fun p h => by have := hp p h; unfold sh; simp; omega
  rw [this, List.map_id]

/-- The plan for several powers: its value's exponents, and its length. -/
theorem tog_inv (ps : List Int) (hp : InPow ps) (h0 : mx ps ≠ 0) :
    let st := tOut ps.length ps (blen (mx ps).toNat) (-1, [])
    0 ≤ st.1 ∧ st.1 < ps.length + st.2.length ∧ (exps ps.length st.2).getD st.1.toNat [] = ps ∧ st.2.length + 1 = (blen (mx ps).toNat - 1) + cnt ps := by
  have hm := mx_nonneg ps
  have hb := blen_pos (n := (mx ps).toNat) (by omega)
  obtain ⟨b, eb⟩ : ∃ b, blen (mx ps).toNat = b + 1 := ⟨blen (mx ps).toNat - 1, by omega⟩
  have hz : ps.map (sh (b + 1)) = List.replicate ps.length 0 := by
    rw [List.eq_replicate_iff]
    refine ⟨by simp, fun e he => ?_⟩
    obtain ⟨x, hx, rfl⟩ := List.mem_map.1 he
    have h1 := le_mx hx
    have : (mx ps).toNat < 2 ^ (b + 1) := (blen_iff _ _).2 (by omega)
    unfold sh
    rw [Nat.div_eq_of_lt (by omega)]; rfl
  have h00 : TInv ps.length (ps.map (sh (b + 1))) 0 (-1, []) := by
    rw [hz]
    refine ⟨by simp, rfl, fun e he => by rw [(List.mem_replicate.1 he).2]; omega, fun _ => ⟨fun e he => (List.mem_replicate.1 he).2, rfl, rfl⟩, fun h => by simp at h⟩
  have h1 := tRound_inv b ps 0 _ rfl hp h00
  rw [if_neg (by simp)] at h1
  have hpos : 0 ≤ (tIn ps.length b ps 0 (tSq ps.length (-1, []))).1 := by
    by_cases hc : 0 ≤ (tIn ps.length b ps 0 (tSq ps.length (-1, []))).1
    · exact hc
    · have z := (h1.1.neg (by omega)).1 (sh b (mx ps)) (List.mem_map_of_mem (mx_mem (by omega)))
      have : ¬ (mx ps).toNat < 2 ^ b := by rw [blen_iff]; omega
      have := Nat.div_pos (a := (mx ps).toNat) (b := 2 ^ b) (by omega) (Nat.two_pow_pos _)
      unfold sh at z; omega
  have h2 := tOut_inv ps rfl hp b 0 _ hpos h1.1
  rw [map_sh0 hp] at h2
  intro st
  have e : st = tOut ps.length ps b (tIn ps.length b ps 0 (tSq ps.length (-1, []))) := by
    show tOut _ _ _ _ = _; rw [eb]; rfl
  rw [e]
  obtain ⟨p1, p2, p3⟩ := h2.1.pos h2.2
  exact ⟨h2.2, p1, p2, by rw [p3]; omega⟩
end Pu
end Go.Proofs.Yticeepbgbefmaaa

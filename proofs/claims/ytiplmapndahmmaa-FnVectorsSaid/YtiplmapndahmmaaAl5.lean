/- The reckoning is right: objects, and the operations that only read. -/
import Derived.Test.YtiplmapndahmmaaAl4
import Derived.WalkSpells
import Derived.Laws.StructEq
namespace Go.Proofs.Ytiplmapndahmmaa
namespace Al
set_option linter.constructorNameAsVariable false
set_option linter.unusedVariables false

/-- The objects' part of a state. -/
structure SimH (H : Hp) (df : List Deferred) (W : World) (St : Nat → Nat → Prop) (ρ : Nat → Option Value) (F : Nat → Option Nat) : Prop where
  obj : ∀ o, RepO W St ρ (H o) (ρ o) (F o)
  dj : ∀ o o' b, F o = some b → F o' = some b → o = o'
  lt : ∀ o b, F o = some b → b < W.heap.size
  nst : ∀ o b i, F o = some b → ¬ St b i
  st : ∀ b i, St b i → b < W.heap.size
  mks : Marks W F df

theorem Sim.h {T : Env} {H : Hp} {tm : Array Value} {df : List Deferred} {W : World} {St : Nat → Nat → Prop} {ρ : Nat → Option Value} {F : Nat → Option Nat}
    (h : Sim T H tm df W St ρ F) : SimH H df W St ρ F := ⟨h.obj, h.dj, h.lt, h.nst, h.st, h.mks⟩

theorem Sim.of {T : Env} {H H' : Hp} {tm : Array Value} {df : List Deferred} {W W' : World} {St St' : Nat → Nat → Prop} {ρ ρ' : Nat → Option Value} {F F' : Nat → Option Nat}
    (h : Sim T H tm df W St ρ F) (k : Keeps W St W' St') (hρ : RLe ρ ρ') (h' : SimH H' df W' St' ρ' F') : Sim T H' tm df W' St' ρ' F' :=
  ⟨fun i => (h.slot i).keep k hρ, h'.obj, h'.dj, h'.lt, h'.nst, h'.st, h'.mks⟩

section
variable {H : Hp} {df : List Deferred} {W W' : World} {St : Nat → Nat → Prop} {ρ : Nat → Option Value} {F : Nat → Option Nat}

theorem cell_of_block {b i : Nat} (h : W'.heap[b]? = W.heap[b]?) : W'.cell? ⟨b, i, none⟩ = W.cell? ⟨b, i, none⟩ := by simp [World.cell?, h]

theorem fr_none (h : SimH H df W St ρ F) {o : Nat} (ho : H o = .fr) : ρ o = none ∧ F o = none := by
  have := h.obj o
  rw [ho] at this
  exact this

/-- One object is turned; what is not its block is as it was. -/
theorem SimH.set (h : SimH H df W St ρ F) (o : Nat) (x : AObj) (ρ' : Nat → Option Value) (f' : Option Nat) (hos : W'.os = W.os) (hta : W'.tape = W.tape) (hou : W'.output = W.output)
    (hsz : W.heap.size ≤ W'.heap.size) (hold : ∀ b, b < W.heap.size → F o ≠ some b → W'.heap[b]? = W.heap[b]?)
    (hρ : RLe ρ ρ') (hρ' : ∀ o', o' ≠ o → ρ' o' = ρ o') (hf : ∀ b, f' = some b → (F o = some b ∨ W.heap.size ≤ b) ∧ b < W'.heap.size)
    (hx : Keeps W St W' St → RepO W' St ρ' x (ρ' o) f') :
    SimH (upd H o x) df W' St ρ' (upd F o f') ∧ Keeps W St W' St ∧ ∀ kp, Evo kp W St ρ F W' St ρ' (upd F o f') := by
  have hk : Keeps W St W' St := fun b i hs => ⟨hs, cell_of_block (hold b (h.st b i hs) (fun e => h.nst o b i e hs))⟩
  have he : ∀ kp, Evo kp W St ρ F W' St ρ' (upd F o f') := fun kp => by
    refine ⟨hos, hta, hou, hsz, fun b hb hn => ⟨hold b hb (hn o), fun i hi => hi⟩, hk, fun o' b e => ?_, fun o' _ v e => hρ o' v e⟩
    by_cases ho : o' = o
    · subst ho
      rw [upd_same] at e
      rcases (hf b e).1 with h1 | h1
      · exact .inl ⟨o', h1⟩
      · exact .inr h1
    · rw [upd_other _ _ ho] at e; exact .inl ⟨o', e⟩
  refine ⟨⟨fun o' => ?_, fun o1 o2 b e1 e2 => ?_, fun o' b e => ?_, fun o' b i e hs => ?_, fun b i hs => Nat.lt_of_lt_of_le (h.st b i hs) hsz, Marks.keep (he []) h.mks⟩, hk, he⟩
  · by_cases ho : o' = o
    · subst ho; rw [upd_same, upd_same]; exact hx hk
    · rw [upd_other _ _ ho, upd_other _ _ ho, hρ' o' ho]
      exact (h.obj o').keep hk hρ (fun b e => hold b (h.lt o' b e) (fun e' => ho (h.dj _ _ _ e e')))
  · by_cases h1 : o1 = o
    · by_cases h2 : o2 = o
      · rw [h1, h2]
      · subst h1
        rw [upd_same] at e1
        rw [upd_other _ _ h2] at e2
        rcases (hf b e1).1 with k | k
        · exact h.dj _ _ _ k e2
        · have := h.lt o2 b e2; omega
    · by_cases h2 : o2 = o
      · subst h2
        rw [upd_same] at e2
        rw [upd_other _ _ h1] at e1
        rcases (hf b e2).1 with k | k
        · exact h.dj _ _ _ e1 k
        · have := h.lt o1 b e1; omega
      · rw [upd_other _ _ h1] at e1
        rw [upd_other _ _ h2] at e2
        exact h.dj _ _ _ e1 e2
  · by_cases ho : o' = o
    · subst ho; rw [upd_same] at e; exact (hf b e).2
    · rw [upd_other _ _ ho] at e; exact Nat.lt_of_lt_of_le (h.lt o' b e) hsz
  · by_cases ho : o' = o
    · subst ho
      rw [upd_same] at e
      rcases (hf b e).1 with k | k
      · exact h.nst _ _ _ k hs
      · have := h.st b i hs; omega
    · rw [upd_other _ _ ho] at e; exact h.nst _ _ _ e hs

/-- One object gives its block to another, new one, and is dead. -/
theorem SimH.give (h : SimH H df W St ρ F) (o o' : Nat) (x : AObj) (v : Value) (f' : Option Nat) (ho : H o' = .fr) (hne : o ≠ o')
    (hos : W'.os = W.os) (hta : W'.tape = W.tape) (hou : W'.output = W.output)
    (hsz : W.heap.size ≤ W'.heap.size) (hold : ∀ b, b < W.heap.size → F o ≠ some b → W'.heap[b]? = W.heap[b]?)
    (hf : ∀ b, f' = some b → (F o = some b ∨ W.heap.size ≤ b) ∧ b < W'.heap.size)
    (hx : Keeps W St W' St → RepO W' St (upd ρ o' (some v)) x (some v) f') :
    SimH (upd (upd H o .dd) o' x) df W' St (upd ρ o' (some v)) (upd (upd F o none) o' f') ∧ Keeps W St W' St ∧
      ∀ kp, Evo kp W St ρ F W' St (upd ρ o' (some v)) (upd (upd F o none) o' f') := by
  obtain ⟨hr0, hf0⟩ := fr_none h ho
  have hρ : RLe ρ (upd ρ o' (some v)) := RLe.upd v hr0
  have hk : Keeps W St W' St := fun b i hs => ⟨hs, cell_of_block (hold b (h.st b i hs) (fun e => h.nst o b i e hs))⟩
  have hF : ∀ a b, upd (upd F o none) o' f' a = some b → (a = o' ∧ f' = some b) ∨ (a ≠ o' ∧ a ≠ o ∧ F a = some b) := fun a b e => by
    by_cases h1 : a = o'
    · subst h1; rw [upd_same] at e; exact .inl ⟨rfl, e⟩
    · rw [upd_other _ _ h1] at e
      by_cases h2 : a = o
      · subst h2; rw [upd_same] at e; cases e
      · rw [upd_other _ _ h2] at e; exact .inr ⟨h1, h2, e⟩
  have he : ∀ kp, Evo kp W St ρ F W' St (upd ρ o' (some v)) (upd (upd F o none) o' f') := fun kp => by
    refine ⟨hos, hta, hou, hsz, fun b hb hn => ⟨hold b hb (hn o), fun i hi => hi⟩, hk, fun a b e => ?_, fun a _ w e => hρ a w e⟩
    rcases hF a b e with ⟨_, k⟩ | ⟨_, _, k⟩
    · rcases (hf b k).1 with k | k
      · exact .inl ⟨o, k⟩
      · exact .inr k
    · exact .inl ⟨a, k⟩
  refine ⟨⟨fun a => ?_, fun o1 o2 b e1 e2 => ?_, fun a b e => ?_, fun a b i e hs => ?_, fun b i hs => Nat.lt_of_lt_of_le (h.st b i hs) hsz, Marks.keep (he []) h.mks⟩, hk, he⟩
  · by_cases h1 : a = o'
    · subst h1; rw [upd_same, upd_same, upd_same]; exact hx hk
    · rw [upd_other _ _ h1, upd_other _ _ h1, upd_other _ _ h1]
      by_cases h2 : a = o
      · subst h2; rw [upd_same, upd_same]; exact rfl
      · rw [upd_other _ _ h2, upd_other _ _ h2]
        exact (h.obj a).keep hk hρ (fun b e => hold b (h.lt a b e) (fun e' => h2 (h.dj _ _ _ e e')))
  · rcases hF o1 b e1 with ⟨a1, k1⟩ | ⟨a1, a1', k1⟩ <;> rcases hF o2 b e2 with ⟨a2, k2⟩ | ⟨a2, a2', k2⟩
    · rw [a1, a2]
    · rcases (hf b k1).1 with k | k
      · exact absurd (h.dj _ _ _ k2 k) a2'
      · have := h.lt o2 b k2; omega
    · rcases (hf b k2).1 with k | k
      · exact absurd (h.dj _ _ _ k1 k) a1'
      · have := h.lt o1 b k1; omega
    · exact h.dj _ _ _ k1 k2
  · rcases hF a b e with ⟨_, k⟩ | ⟨_, _, k⟩
    · exact (hf b k).2
    · exact Nat.lt_of_lt_of_le (h.lt a b k) hsz
  · rcases hF a b e with ⟨_, k⟩ | ⟨_, _, k⟩
    · rcases (hf b k).1 with k | k
      · exact h.nst _ _ _ k hs
      · have := h.st b i hs; omega
    · exact h.nst _ _ _ k hs
end

/-! ### The table -/

theorem tab_row {P : Program} : ∀ {tt : Tab} {t : TypeId} {ti : TI}, TabOK P tt → tget tt t = some ti →
    (P.info? t).map (fun i => (i.size, i.bytes, i.zero)) = some (ti.size, ti.bytes, some (zvA ti.zero)) ∧ (P.underlying t).map dkOf = some ti.dk ∧
      ti.zero.cvs.all CV.const = true ∧ ti.zero.cvs.length = ti.size ∧ (ti.eqk = true → EqFact P t ti.size) ∧ (ti.dk.agg = false → ti.size = 1)
  | [], _, _, _, h => by cases h
  | (k, i) :: r, t, ti, ⟨h1, h2⟩, h => by
    simp only [tget] at h
    split at h
    · rename_i e
      subst e
      cases h
      exact h1
    · exact tab_row h2 h

theorem tab_info {P : Program} {tt : Tab} {t : TypeId} {ti : TI} (hP : TabOK P tt) (h : tget tt t = some ti) :
    ∃ i, P.info? t = some i ∧ i.size = ti.size ∧ i.bytes = ti.bytes ∧ i.zero = some (zvA ti.zero) := by
  obtain ⟨h1, _⟩ := tab_row hP h
  cases hi : P.info? t with
  | none => rw [hi] at h1; cases h1
  | some i =>
    rw [hi] at h1
    simp only [Option.map_some, Option.some.injEq, Prod.mk.injEq] at h1
    exact ⟨i, rfl, h1.1, h1.2.1, h1.2.2⟩

theorem tab_und {P : Program} {tt : Tab} {t : TypeId} {ti : TI} (hP : TabOK P tt) (h : tget tt t = some ti) : ∃ d, P.underlying t = some d ∧ dkOf d = ti.dk := by
  obtain ⟨_, h1, _⟩ := tab_row hP h
  cases hi : P.underlying t with
  | none => rw [hi] at h1; cases h1
  | some d => rw [hi] at h1; exact ⟨d, rfl, by simpa using h1⟩

theorem tab_slice {P : Program} {tt : Tab} {t e : TypeId} {ti : TI} (hP : TabOK P tt) (h : tget tt t = some ti) (hd : ti.dk = .sl e) : P.underlying t = some (.slice e) := by
  obtain ⟨d, h1, h2⟩ := tab_und hP h
  rw [hd] at h2
  cases d <;> simp [dkOf] at h2
  subst h2
  exact h1

theorem run_isAgg {P : Program} {tt : Tab} {t : TypeId} {ti : TI} (hP : TabOK P tt) (h : tget tt t = some ti) (w : World) : (isAgg t).run P w = .ok ti.dk.agg w := by
  obtain ⟨d, h1, h2⟩ := tab_und hP h
  rw [← h2]
  cases d <;> simp [isAgg, run_underlying h1, dkOf, DK.agg]

theorem run_sizeOf {P : Program} {tt : Tab} {t : TypeId} {ti : TI} (hP : TabOK P tt) (h : tget tt t = some ti) (w : World) : (sizeOf t).run P w = .ok ti.size w := by
  obtain ⟨i, h1, h2, _⟩ := tab_info hP h
  simp [sizeOf, typeInfo, h1, h2]

theorem run_zeroValue {P : Program} {tt : Tab} {t : TypeId} {ti : TI} (hP : TabOK P tt) (h : tget tt t = some ti) (w : World) : (zeroValue t).run P w = .ok (zvA ti.zero) w := by
  obtain ⟨i, h1, _, _, h2⟩ := tab_info hP h
  simp [zeroValue, typeInfo, h1, h2]

theorem run_typeInfo {P : Program} {t : TypeId} {i : TypeInfo} (h : P.info? t = some i) (w : World) : (typeInfo t).run P w = .ok i w := by
  simp [typeInfo, h]

theorem zvC_one (c : CV) (h : c.const = true) : (zvC c).oneCell' = true := by cases c <;> simp [CV.const] at h <;> rfl

section
variable {W : World} {St : Nat → Nat → Prop} {ρ : Nat → Option Value}

theorem zvC_rep (c : CV) (h : c.const = true) : RepC W St ρ c (zvC c) := by
  cases c <;> simp [CV.const] at h <;> exact rfl

theorem zv_reps : ∀ (cs : List CV), cs.all CV.const = true → RepCs W St ρ cs (cs.map zvC)
  | [], _ => rfl
  | c :: cs, h => by
    simp only [List.all_cons, Bool.and_eq_true] at h
    exact ⟨zvC c, cs.map zvC, rfl, zvC_one c h.1, zvC_rep c h.1, zv_reps cs h.2⟩

theorem zvA_rep (x : AV) (h : x.cvs.all CV.const = true) : RepA W St ρ x (zvA x) := by
  cases x with
  | c x =>
    simp only [AV.cvs, List.all_cons, List.all_nil, Bool.and_true] at h
    exact RepA.of (zvC_one x h) (zvC_rep x h)
  | ag cs => exact ⟨cs.map zvC, rfl, zv_reps cs h⟩

theorem zvA_cells (x : AV) (h : x.cvs.all CV.const = true) : (zvA x).cells.toList = x.cvs.map zvC := by
  cases x with
  | c x =>
    simp only [AV.cvs, List.all_cons, List.all_nil, Bool.and_true] at h
    cases x <;> simp [CV.const] at h <;> rfl
  | ag cs => simp [zvA, Value.cells, AV.cvs]

/-- The cells of a value. -/
theorem RepA.cells {x : AV} {u : Value} (h : RepA W St ρ x u) (hx : x ≠ .c .un) : RepCs W St ρ x.cvs u.cells.toList := by
  cases x with
  | c x =>
    have h' : u.oneCell' = true ∧ RepC W St ρ x u := by cases x <;> first | exact absurd rfl hx | exact h
    have hc : u.cells = #[u] := by cases u <;> first | rfl | (exfalso; have := h'.1; simp [Value.oneCell'] at this)
    rw [hc]
    exact ⟨u, [], rfl, h'.1, h'.2, rfl⟩
  | ag cs =>
    obtain ⟨us, rfl, h⟩ := h
    simpa [Value.cells, AV.cvs] using h

theorem RepCs.length : ∀ {cs : List CV} {us : List Value}, RepCs W St ρ cs us → us.length = cs.length
  | [], _, h => by rw [show _ = [] from h]; rfl
  | _ :: cs, _, ⟨u, us', rfl, _, _, h⟩ => by simp [RepCs.length h]

theorem RepCs.get : ∀ {cs : List CV} {us : List Value} {i : Nat} {c : CV}, RepCs W St ρ cs us → cs[i]? = some c → ∃ u, us[i]? = some u ∧ u.oneCell' = true ∧ RepC W St ρ c u
  | [], _, _, _, _, h => by cases h
  | _ :: _, _, 0, _, ⟨u, us', rfl, h1, h2, _⟩, h => by cases h; exact ⟨u, rfl, h1, h2⟩
  | _ :: _, _, i + 1, _, ⟨u, us', rfl, _, _, h3⟩, h => by
    obtain ⟨v, k⟩ := RepCs.get (i := i) h3 (by simpa using h)
    exact ⟨v, by simpa using k⟩

theorem RepCs.drop : ∀ {cs : List CV} {us : List Value} (n : Nat), RepCs W St ρ cs us → RepCs W St ρ (cs.drop n) (us.drop n)
  | _, _, 0, h => h
  | [], _, n + 1, h => by rw [show _ = [] from h]; exact rfl
  | _ :: _, _, n + 1, ⟨u, us', rfl, _, _, h3⟩ => by simpa using RepCs.drop n h3

theorem RepCs.take : ∀ {cs : List CV} {us : List Value} (n : Nat), RepCs W St ρ cs us → RepCs W St ρ (cs.take n) (us.take n)
  | _, _, 0, h => rfl
  | [], _, n + 1, h => by rw [show _ = [] from h]; exact rfl
  | _ :: _, _, n + 1, ⟨u, us', rfl, h1, h2, h3⟩ => ⟨u, us'.take n, by simp, h1, h2, RepCs.take n h3⟩

theorem RepCs.append : ∀ {cs ds : List CV} {us vs : List Value}, RepCs W St ρ cs us → RepCs W St ρ ds vs → RepCs W St ρ (cs ++ ds) (us ++ vs)
  | [], _, _, _, h, k => by rw [show _ = [] from h]; exact k
  | _ :: _, _, _, _, ⟨u, us', rfl, h1, h2, h3⟩, k => ⟨u, us' ++ _, rfl, h1, h2, RepCs.append h3 k⟩

theorem RepCs.set {cs : List CV} {us : List Value} {xs : List CV} {vs : List Value} (d : Nat) (h : RepCs W St ρ cs us) (k : RepCs W St ρ xs vs) :
    RepCs W St ρ (setCs cs d xs) (us.take d ++ vs ++ us.drop (d + vs.length)) := by
  unfold setCs
  rw [← k.length]
  exact ((h.take d).append k).append (h.drop _)

theorem RepCs.one : ∀ {cs : List CV} {us : List Value}, RepCs W St ρ cs us → ∀ u ∈ us, u.oneCell' = true
  | [], _, h, u, hu => by rw [show _ = [] from h] at hu; cases hu
  | _ :: _, _, ⟨v, us', rfl, h1, _, h3⟩, u, hu => by
    rcases List.mem_cons.1 hu with rfl | hu
    · exact h1
    · exact RepCs.one h3 u hu

/-- A list's element, by cells. -/
theorem RepT.cvs : ∀ (t : Ty) (x : t.den) (us : List Value), RepT W St t x us → RepCs W St ρ (t.cvs x) us
  | .num k, _, _, h => ⟨_, [], h, rfl, rfl, rfl⟩
  | .boo, _, _, h => ⟨_, [], h, rfl, rfl, rfl⟩
  | .st, _, _, h => ⟨_, [], h, rfl, rfl, rfl⟩
  | .sl t, _, _, ⟨A, c, h1, h2⟩ => ⟨_, [], h1, rfl, ⟨A, c, rfl, h2, fun e => by cases e⟩, rfl⟩
  | .pr a b, _, _, ⟨c1, c2, h1, h2, h3⟩ => by
    subst h1
    exact (RepT.cvs a _ _ h2).append (RepT.cvs b _ _ h3)

theorem Ty.cvs_length : ∀ (t : Ty) (x : t.den), (t.cvs x).length = t.sz
  | .num _, _ => rfl
  | .boo, _ => rfl
  | .st, _ => rfl
  | .sl _, _ => rfl
  | .pr a b, x => by simp [Ty.cvs, Ty.sz, Ty.cvs_length a, Ty.cvs_length b]

theorem RepT.length {t : Ty} {x : t.den} {us : List Value} (h : RepT W St t x us) : us.length = t.sz := by
  rw [(RepT.cvs (ρ := fun _ => none) t x us h).length, Ty.cvs_length]

theorem nilL {α : Type} {sz : Nat} {R : α → List Value → Prop} : RepL W St sz R ([] : List α) none 0 :=
  ⟨Nat.le_refl _, Nat.zero_le _, fun _ => rfl, [], by simp, fun i x hx => by simp at hx, fun j u hj => by simp at hj⟩

theorem RepT.zero : ∀ (t : Ty) (cs : List CV), t.zeroFits cs = true → RepT W St t t.dflt (cs.map zvC)
  | .num k, cs, h => by
    match cs, h with
    | [.int k' n], h =>
      simp only [Ty.zeroFits, Bool.and_eq_true, decide_eq_true_eq, beq_iff_eq] at h
      obtain ⟨rfl, rfl⟩ := h
      rfl
  | .boo, cs, h => by
    match cs, h with
    | [.bool b], h => simp [Ty.zeroFits] at h; subst h; rfl
  | .st, cs, h => by
    match cs, h with
    | [.str s], h =>
      simp only [Ty.zeroFits, beq_iff_eq] at h
      have : s = ByteArray.empty := by
        cases s with | mk a => cases a with | mk l => cases l with
          | nil => rfl
          | cons x l => simp [ByteArray.size] at h
      subst this
      rfl
  | .sl t, cs, h => by
    match cs, h with
    | [.nl], _ =>
      exact ⟨none, 0, rfl, nilL⟩
  | .pr a b, cs, h => by
    simp only [Ty.zeroFits, Bool.and_eq_true] at h
    exact ⟨_, _, by rw [← List.map_append, List.take_append_drop], RepT.zero a _ h.1, RepT.zero b _ h.2⟩

/-- Cells that are a value of a type. -/
theorem RepCs.den {H : Hp} {F : Nat → Option Nat} (hH : ∀ o, RepO W St ρ (H o) (ρ o) (F o)) : ∀ (t : Ty) (cs : List CV) (us : List Value) (x : t.den),
    RepCs W St ρ cs us → t.ofCvs H cs = some x → RepT W St t x us
  | .num k, cs, us, x, h, e => by
    match cs, h, e with
    | [.int k' n], h, e =>
      obtain ⟨u, us', rfl, _, h2, h3⟩ := h
      simp only [Ty.ofCvs] at e
      split at e
      · rename_i hk
        subst hk
        cases e
        rw [show us' = [] from h3, show u = _ from h2]
        rfl
      · cases e
  | .boo, cs, us, x, h, e => by
    match cs, h, e with
    | [.bool b], h, e =>
      obtain ⟨u, us', rfl, _, h2, h3⟩ := h
      cases e
      rw [show us' = [] from h3, show u = _ from h2]
      rfl
  | .st, cs, us, x, h, e => by
    match cs, h, e with
    | [.str b], h, e =>
      obtain ⟨u, us', rfl, _, h2, h3⟩ := h
      cases e
      rw [show us' = [] from h3, show u = _ from h2]
      rfl
  | .sl t, cs, us, x, h, e => by
    match cs, h, e with
    | [.nl], h, e =>
      obtain ⟨u, us', rfl, _, h2, h3⟩ := h
      cases e
      rw [show us' = [] from h3, show u = _ from h2]
      exact ⟨none, 0, rfl, nilL⟩
    | [.ls f u xs], h, e =>
      obtain ⟨v, us', rfl, _, ⟨A, c, h2, h4, _⟩, h3⟩ := h
      simp only [Ty.ofCvs, castL] at e
      split at e
      · rename_i hk _
        subst hk
        cases e
        rw [show us' = [] from h3, h2]
        exact ⟨A, c, rfl, h4⟩
      · cases e
    | [.ho o], h, e =>
      obtain ⟨v, us', rfl, _, ⟨h2, _⟩, h3⟩ := h
      simp only [Ty.ofCvs] at e
      split at e
      · rename_i u xs ho
        simp only [castL] at e
        split at e
        · rename_i hk _
          subst hk
          cases e
          have := hH o
          rw [ho] at this
          obtain ⟨⟨A, c, k1, k2⟩, _⟩ := this
          rw [h2] at k1
          cases k1
          rw [show us' = [] from h3]
          exact ⟨A, c, rfl, k2⟩
        · cases e
      · cases e
  | .pr a b, cs, us, x, h, e => by
    simp only [Ty.ofCvs] at e
    split at e
    · rename_i y z h1 h2
      cases e
      exact ⟨_, _, (List.take_append_drop a.sz us).symm, RepCs.den hH a _ _ _ (h.take _) h1, RepCs.den hH b _ _ _ (h.drop _) h2⟩
    · cases e
end
end Al
end Go.Proofs.Ytiplmapndahmmaa

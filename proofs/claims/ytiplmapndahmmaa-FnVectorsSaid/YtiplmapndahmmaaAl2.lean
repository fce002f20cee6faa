/- What is kept from world to world; the relation of an abstract state to a frame and a world. -/
import Derived.Test.YtiplmapndahmmaaAl1
namespace Go.Proofs.Ytiplmapndahmmaa
namespace Al
set_option linter.constructorNameAsVariable false
set_option linter.unusedVariables false

/-- Stable cells stay. -/
def Keeps (W : World) (St : Nat → Nat → Prop) (W' : World) (St' : Nat → Nat → Prop) : Prop :=
  ∀ b i, St b i → St' b i ∧ W'.cell? ⟨b, i, none⟩ = W.cell? ⟨b, i, none⟩

theorem Keeps.refl (W : World) (St : Nat → Nat → Prop) : Keeps W St W St := fun _ _ h => ⟨h, rfl⟩
theorem Keeps.trans {W W' W'' : World} {St St' St'' : Nat → Nat → Prop} (h : Keeps W St W' St') (k : Keeps W' St' W'' St'') : Keeps W St W'' St'' :=
  fun b i hs => ⟨(k b i (h b i hs).1).1, (k b i (h b i hs).1).2.trans (h b i hs).2⟩

/-- What has a value keeps it. -/
def RLe (ρ ρ' : Nat → Option Value) : Prop := ∀ o v, ρ o = some v → ρ' o = some v
theorem RLe.refl (ρ : Nat → Option Value) : RLe ρ ρ := fun _ _ h => h
theorem RLe.trans {ρ ρ' ρ'' : Nat → Option Value} (h : RLe ρ ρ') (k : RLe ρ' ρ'') : RLe ρ ρ'' := fun o v e => k o v (h o v e)
theorem RLe.upd {ρ : Nat → Option Value} {o : Nat} (v : Value) (h : ρ o = none) : RLe ρ (upd ρ o (some v)) := fun o' v' e => by
  rw [upd_other]
  · exact e
  · rintro rfl; rw [h] at e; cases e

section
variable {W W' : World} {St St' : Nat → Nat → Prop}

theorem Seen.keep (k : Keeps W St W' St') {A : Option Addr} {us : List Value} (h : Seen W St A us) : Seen W' St' A us := by
  intro j u hj
  obtain ⟨b, o, hA, hc, hs⟩ := h j u hj
  exact ⟨b, o, hA, (k b _ hs).2.trans hc, (k b _ hs).1⟩

theorem RepL.keep (k : Keeps W St W' St') {α : Type} {sz : Nat} {R R' : α → List Value → Prop} {xs : List α} {A : Option Addr} {c : Nat}
    (hR : ∀ x us, R x us → R' x us) (h : RepL W St sz R xs A c) : RepL W' St' sz R' xs A c := by
  obtain ⟨h1, h2, h3, us, h4, h5, h6⟩ := h
  exact ⟨h1, h2, h3, us, h4, fun i x hx => hR _ _ (h5 i x hx), h6.keep k⟩

theorem RepT.keep (k : Keeps W St W' St') : ∀ (t : Ty) (x : t.den) (us : List Value), RepT W St t x us → RepT W' St' t x us
  | .num _, _, _, h => h
  | .boo, _, _, h => h
  | .st, _, _, h => h
  | .sl t, _, _, ⟨A, c, h1, h2⟩ => ⟨A, c, h1, h2.keep k (fun x us => RepT.keep k t x us)⟩
  | .pr a b, _, _, ⟨c1, c2, h1, h2, h3⟩ => ⟨c1, c2, h1, RepT.keep k a _ _ h2, RepT.keep k b _ _ h3⟩

theorem RepX.keep (k : Keeps W St W' St') {t : Ty} {e : TypeId} {xs : List t.den} {A : Option Addr} {c : Nat} {F : Option Nat}
    (hF : ∀ b, F = some b → W'.heap[b]? = W.heap[b]?) (h : RepX W St t e xs A c F) : RepX W' St' t e xs A c F := by
  rcases h with h | ⟨b, cur, h1, h2, h3, h4, h5, h6, h7⟩
  · exact .inl h
  · exact .inr ⟨b, cur, h1, (hF b h7).trans h2, h3, h4, h5, fun i x hx => RepT.keep k t _ _ (h6 i x hx), h7⟩

variable {ρ ρ' : Nat → Option Value}

theorem map_le (hρ : RLe ρ ρ') : ∀ {os : List Nat} {vs : List Value}, os.map ρ = vs.map some → os.map ρ' = vs.map some
  | [], [], _ => rfl
  | o :: os, v :: vs, h => by
    simp only [List.map_cons, List.cons.injEq] at h ⊢
    exact ⟨hρ o v h.1, map_le hρ h.2⟩
  | [], _ :: _, h => by simp at h
  | _ :: _, [], h => by simp at h

theorem RepC.keep (k : Keeps W St W' St') (hρ : RLe ρ ρ') : ∀ {x : CV} {u : Value}, RepC W St ρ x u → RepC W' St' ρ' x u
  | .un, _, _ => trivial
  | .int _ _, _, h => h
  | .bool _, _, h => h
  | .str _, _, h => h
  | .np, _, h => h
  | .p _ _, _, ⟨b, h1, h2⟩ => ⟨b, hρ _ _ h1, h2⟩
  | .cp t x, _, ⟨b, o, us, h1, h2, h3⟩ => ⟨b, o, us, h1, RepT.keep k t x us h2, h3.keep k⟩
  | .nl, _, h => h
  | .ls _ t xs, _, ⟨A, c, h1, h2, h3⟩ => ⟨A, c, h1, h2.keep k (fun x us => RepT.keep k t x us), h3⟩
  | .ho _, _, ⟨h1, h2⟩ => ⟨hρ _ _ h1, h2⟩
  | .fn f os, _, ⟨vs, h1, h2⟩ => ⟨vs, map_le hρ h1, h2⟩
  | .nf, _, h => h
  | .ni, _, h => h
  | .ie, _, h => h
  | .mp _, _, ⟨h1, h2⟩ => ⟨hρ _ _ h1, h2⟩
  | .nm, _, h => h

theorem RepCs.keep (k : Keeps W St W' St') (hρ : RLe ρ ρ') : ∀ {cs : List CV} {us : List Value}, RepCs W St ρ cs us → RepCs W' St' ρ' cs us
  | [], _, h => h
  | _ :: _, _, ⟨u, us', h1, h3, h4, h5⟩ => ⟨u, us', h1, h3, h4.keep k hρ, RepCs.keep k hρ h5⟩

theorem RepA.of {x : CV} {u : Value} (h1 : u.oneCell' = true) (h : RepC W St ρ x u) : RepA W St ρ (.c x) u := by
  cases x <;> first | trivial | exact ⟨h1, h⟩

theorem RepA.keep (k : Keeps W St W' St') (hρ : RLe ρ ρ') : ∀ {x : AV} {u : Value}, RepA W St ρ x u → RepA W' St' ρ' x u
  | .ag _, _, ⟨us, h1, h⟩ => ⟨us, h1, h.keep k hρ⟩
  | .c x, _, h => by
    cases x <;> first | trivial | exact ⟨h.1, RepC.keep k hρ h.2⟩

theorem RepAs.keep (k : Keeps W St W' St') (hρ : RLe ρ ρ') : ∀ {cs : List AV} {us : List Value}, RepAs W St ρ cs us → RepAs W' St' ρ' cs us
  | [], _, h => h
  | _ :: _, _, ⟨u, us', h1, h4, h5⟩ => ⟨u, us', h1, h4.keep k hρ, RepAs.keep k hρ h5⟩

theorem RepS.keep (k : Keeps W St W' St') (hρ : RLe ρ ρ') : ∀ {x : SV} {u : Value}, RepS W St ρ x u → RepS W' St' ρ' x u
  | .v _, _, h => RepA.keep k hρ h
  | .tu _, _, ⟨us, h1, h⟩ => ⟨us, h1, h.keep k hρ⟩
  | .el _ _ _ _, _, ⟨b, n, c, h1, h2⟩ => ⟨b, n, c, hρ _ _ h1, h2⟩
  | .gd _ _, _, h => ⟨fun hb => RepS.keep k hρ (h.1 hb), h.2⟩

/-- An object whose block is as it was. -/
theorem RepO.keep (k : Keeps W St W' St') (hρ : RLe ρ ρ') : ∀ {x : AObj} {r : Option Value} {F : Option Nat}, (∀ b, F = some b → W'.heap[b]? = W.heap[b]?) →
    RepO W St ρ x r F → RepO W' St' ρ' x r F
  | .fr, _, _, _, h => h
  | .dd, _, _, _, h => h
  | .bx _, _, _, hF, ⟨b, cur, e, h1, h2, h3, h4⟩ => ⟨b, cur, e, h1, (hF b h4).trans h2, h3.keep k hρ, h4⟩
  | .vc _ _ _, _, _, hF, ⟨A, c, h1, h2⟩ => ⟨A, c, h1, h2.keep k hF⟩
  | .vz t _, _, _, _, ⟨⟨A, c, h1, h2⟩, h3⟩ => ⟨⟨A, c, h1, h2.keep k (fun x us => RepT.keep k t x us)⟩, h3⟩
  | .mp kt vt _, _, _, hF, ⟨b, es, clk, h1, h2, h3, h4, h5⟩ => ⟨b, es, clk, h1, (hF b h3).trans h2, h3, h4, fun i kv h => by
      obtain ⟨en, g1, g2, g3, g4⟩ := h5 i kv h
      exact ⟨en, g1, RepT.keep k kt _ _ g2, RepT.keep k vt _ _ g3, g4⟩⟩
end

/-! ### States -/

/-- The marks of ranges over functions among the deferred calls: each with a block of its own. -/
def Marks (W : World) (F : Nat → Option Nat) : List Deferred → Prop
  | [] => True
  | d :: ds => (∃ r, d = { target := .collected r, args := #[] } ∧ W.heap[r]? = some (.deferred (some [])) ∧ (∀ o, F o ≠ some r) ∧
      ∀ d' ∈ ds, d' ≠ ({ target := .collected r, args := #[] } : Deferred)) ∧ Marks W F ds

structure Sim (T : Env) (H : Hp) (tm : Array Value) (df : List Deferred) (W : World) (St : Nat → Nat → Prop) (ρ : Nat → Option Value) (F : Nat → Option Nat) : Prop where
  slot : ∀ k, RepS W St ρ (T k) (tm.getD k undef)
  obj : ∀ o, RepO W St ρ (H o) (ρ o) (F o)
  dj : ∀ o o' b, F o = some b → F o' = some b → o = o'
  lt : ∀ o b, F o = some b → b < W.heap.size
  nst : ∀ o b i, F o = some b → ¬ St b i
  st : ∀ b i, St b i → b < W.heap.size
  mks : Marks W F df

/-- From world to world: what is not owned is as it was. -/
structure Evo (kp : List Nat) (W : World) (St : Nat → Nat → Prop) (ρ : Nat → Option Value) (F : Nat → Option Nat)
    (W' : World) (St' : Nat → Nat → Prop) (ρ' : Nat → Option Value) (F' : Nat → Option Nat) : Prop where
  os : W'.os = W.os
  tape : W'.tape = W.tape
  output : W'.output = W.output
  size : W.heap.size ≤ W'.heap.size
  old : ∀ b, b < W.heap.size → (∀ o, F o ≠ some b) → W'.heap[b]? = W.heap[b]? ∧ ∀ i, St' b i → St b i
  keeps : Keeps W St W' St'
  own : ∀ o b, F' o = some b → (∃ o', F o' = some b) ∨ W.heap.size ≤ b
  rho : ∀ o ∈ kp, ∀ v, ρ o = some v → ρ' o = some v

theorem Evo.refl (kp : List Nat) (W : World) (St : Nat → Nat → Prop) (ρ : Nat → Option Value) (F : Nat → Option Nat) : Evo kp W St ρ F W St ρ F :=
  ⟨rfl, rfl, rfl, Nat.le_refl _, fun _ _ _ => ⟨rfl, fun _ h => h⟩, Keeps.refl _ _, fun o b h => .inl ⟨o, h⟩, fun _ _ _ h => h⟩

theorem Evo.trans {kp : List Nat} {W W' W'' : World} {St St' St'' : Nat → Nat → Prop} {ρ ρ' ρ'' : Nat → Option Value} {F F' F'' : Nat → Option Nat}
    (h : Evo kp W St ρ F W' St' ρ' F') (k : Evo kp W' St' ρ' F' W'' St'' ρ'' F'') : Evo kp W St ρ F W'' St'' ρ'' F'' where
  os := k.os.trans h.os
  tape := k.tape.trans h.tape
  output := k.output.trans h.output
  size := Nat.le_trans h.size k.size
  old := fun b hb hn => by
    have hn' : ∀ o, F' o ≠ some b := fun o e => by
      rcases h.own o b e with ⟨o', h1⟩ | h1
      · exact hn o' h1
      · omega
    obtain ⟨h1, h2⟩ := h.old b hb hn
    obtain ⟨k1, k2⟩ := k.old b (Nat.lt_of_lt_of_le hb h.size) hn'
    exact ⟨k1.trans h1, fun i hi => h2 i (k2 i hi)⟩
  keeps := h.keeps.trans k.keeps
  own := fun o b e => by
    rcases k.own o b e with ⟨o', h1⟩ | h1
    · exact h.own o' b h1
    · exact .inr (Nat.le_trans h.size h1)
  rho := fun o ho v e => k.rho o ho v (h.rho o ho v e)

theorem Marks.keep {W W' : World} {F F' : Nat → Option Nat} {St St' : Nat → Nat → Prop} {ρ ρ' : Nat → Option Value} {kp : List Nat} (h : Evo kp W St ρ F W' St' ρ' F') :
    ∀ {ds : List Deferred}, Marks W F ds → Marks W' F' ds
  | [], _ => trivial
  | d :: ds, ⟨⟨r, h1, h2, h3, h4⟩, hr⟩ => by
    have hlt : r < W.heap.size := (Array.getElem?_eq_some_iff.1 h2).1
    refine ⟨⟨r, h1, (h.old r hlt h3).1.trans h2, fun o e => ?_, h4⟩, Marks.keep h hr⟩
    rcases h.own o r e with ⟨o', k1⟩ | k1
    · exact h3 o' k1
    · omega

section
variable {T : Env} {H : Hp} {tm : Array Value} {df : List Deferred} {W W' : World} {St St' : Nat → Nat → Prop} {ρ ρ' : Nat → Option Value} {F F' : Nat → Option Nat}

/-- Less is known. -/
theorem Sim.weaken (h : Sim T H tm df W St ρ F) {T' : Env} (ht : ∀ k, T' k = T k ∨ T' k = .v (.c .un)) : Sim T' H tm df W St ρ F :=
  { h with slot := fun k => by rcases ht k with e | e <;> rw [e]; exact h.slot k; exact trivial }

/-- A slot is set. -/
theorem Sim.put (h : Sim T H tm df W St ρ F) {d : Nat} {x : SV} {u : Value} (hd : d < tm.size) (hx : RepS W St ρ x u) : Sim (upd T d x) H (tm.setIfInBounds d u) df W St ρ F :=
  { h with
    slot := fun k => by
      by_cases e : k = d
      · subst e; simpa [upd, Array.getD, hd] using hx
      · have := h.slot k
        rw [upd_other _ _ e]
        have e' : (tm.setIfInBounds d u).getD k undef = tm.getD k undef := by
          simp only [Array.getD_eq_getD_getElem?]
          rw [Array.getElem?_setIfInBounds_ne (by omega)]
        rw [e']; exact this }
end
end Al
end Go.Proofs.Ytiplmapndahmmaa

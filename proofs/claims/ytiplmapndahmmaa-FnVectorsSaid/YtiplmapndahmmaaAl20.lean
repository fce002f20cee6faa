/- States as lists; what is ghost; regions with their outcome. -/
import Derived.Test.YtiplmapndahmmaaAl19
namespace Go.Proofs.Ytiplmapndahmmaa
namespace Al
set_option linter.constructorNameAsVariable false
set_option linter.unusedVariables false
set_option linter.unusedSimpArgs false

def envS : List (Nat × SV) → Env
  | [], _ => .v (.c .un)
  | (k, x) :: r, j => if k = j then x else envS r j

def hpS : List (Nat × AObj) → Hp
  | [], _ => .fr
  | (k, x) :: r, j => if k = j then x else hpS r j

/-! ### Ghosts -/

inductive G where
  | frz (o : Nat)
  | view (k : Nat)
  | nilv (k : Nat) (t : Ty)
  | own (k o : Nat) (e : TypeId) (t : Ty)
  | aview (k i : Nat)
  | anil (k i : Nat) (t : Ty)
  | cview (o i : Nat)
  | cnil (o i : Nat) (t : Ty)
  | cown (o i o' : Nat) (e : TypeId) (t : Ty)

/-- A list that stays, by its content. -/
def viewC (H : Hp) : CV → Option CV
  | .ls _ t xs => some (.ls false t xs)
  | .ho o => match H o with | .vz t xs => some (.ls false t xs) | _ => none
  | _ => none

def ghost1 : G → Env → Hp → Option (Env × Hp)
  | .frz o, T, H => match H o with | .vc _ t xs => some (T, upd H o (.vz t xs)) | _ => none
  | .view k, T, H => match T k with | .v (.c x) => (match viewC H x with | some y => some (upd T k (.v (.c y)), H) | none => none) | _ => none
  | .nilv k t, T, H => match T k with | .v (.c .nl) => some (upd T k (.v (.c (.ls true t []))), H) | _ => none
  | .own k o e t, T, H => match T k, H o with | .v (.c .nl), .fr => some (upd T k (.v (.c (.ho o))), upd H o (.vc e t [])) | _, _ => none
  | .aview k i, T, H => match T k with
    | .v (.ag cs) => (match cs[i]? with | some x => (match viewC H x with | some y => some (upd T k (.v (.ag (cs.set i y))), H) | none => none) | none => none)
    | _ => none
  | .anil k i t, T, H => match T k with
    | .v (.ag cs) => (match cs[i]? with | some .nl => some (upd T k (.v (.ag (cs.set i (.ls true t [])))), H) | _ => none)
    | _ => none
  | .cview o i, T, H => match H o with
    | .bx cs => (match cs[i]? with | some x => (match viewC H x with | some y => some (T, upd H o (.bx (cs.set i y))) | none => none) | none => none)
    | _ => none
  | .cnil o i t, T, H => match H o with
    | .bx cs => (match cs[i]? with | some .nl => some (T, upd H o (.bx (cs.set i (.ls true t [])))) | _ => none)
    | _ => none
  | .cown o i o' e t, T, H => match H o with
    | .bx cs => (match cs[i]?, H o' with | some .nl, .fr => some (T, upd (upd H o (.bx (cs.set i (.ho o')))) o' (.vc e t [])) | _, _ => none)
    | _ => none

def ghosts : List G → Env → Hp → Option (Env × Hp)
  | [], T, H => some (T, H)
  | g :: gs, T, H => match ghost1 g T H with | some (T', H') => ghosts gs T' H' | none => none

section
variable {T : Env} {H : Hp} {tm : Array Value} {df : List Deferred} {W : World} {St : Nat → Nat → Prop} {ρ : Nat → Option Value} {F : Nat → Option Nat}

theorem vc_view (hS : SimH H df W St ρ F) {o : Nat} {e : TypeId} {t : Ty} {xs : List t.den} (ho : H o = .vc e t xs) {St' : Nat → Nat → Prop} (hk : Keeps W St W St') (hst : ∀ b i, F o = some b → St' b i) :
    ∃ A c, ρ o = some (.slice A xs.length c) ∧ RepL W St' t.sz (fun x us => RepT W St' t x us) xs A c := by
  have hob := hS.obj o
  rw [ho] at hob
  obtain ⟨A, c, e1, h3⟩ := hob
  refine ⟨A, c, e1, ?_⟩
  rcases h3 with ⟨rfl, rfl, h3⟩ | ⟨b, cur, rfl, k1, k2, k3, k4, k5, k6⟩
  · exact ⟨Nat.le_refl _, Nat.zero_le _, fun _ => rfl, [], by simp, fun i x hx => by simp at hx, fun j u hj => by simp at hj⟩
  · refine ⟨k2, k3, (fun e => by cases e), cur.toList.take (xs.length * t.sz), ?_, fun i x hx => ?_, fun j u hj => ?_⟩
    · have : xs.length * t.sz ≤ c * t.sz := Nat.mul_le_mul_right _ k2
      have hcl : cur.toList.length = c * t.sz := by simpa using k4
      rw [List.length_take, hcl]
      omega
    · have hi := (List.getElem?_eq_some_iff.1 hx).1
      have hmul : (i + 1) * t.sz ≤ xs.length * t.sz := Nat.mul_le_mul_right _ hi
      rw [Nat.add_mul, Nat.one_mul] at hmul
      rw [List.drop_take, List.take_take, Nat.min_eq_left (by omega)]
      exact (k5 i x hx).keep hk _ _ _
    · rw [List.getElem?_take] at hj
      split at hj
      · exact ⟨b, 0, rfl, by rw [cell_at k1]; simpa using hj, hst b _ k6⟩
      · cases hj

theorem viewC_rep (hS : SimH H df W St ρ F) {x y : CV} {u : Value} (h : viewC H x = some y) (hx : RepC W St ρ x u) : RepC W St ρ y u := by
  unfold viewC at h
  split at h
  · cases h
    obtain ⟨A, c, h2, h3, h4⟩ := hx
    exact ⟨A, c, h2, h3, fun e => by cases e⟩
  · rename_i o
    obtain ⟨h2, _⟩ := hx
    split at h
    · rename_i t xs ho
      cases h
      obtain ⟨A, c, e1, h3⟩ := vz_list hS ho h2
      exact ⟨A, c, e1, h3, fun e => by cases e⟩
    · cases h
  · cases h

theorem slot_set (hS : Sim T H tm df W St ρ F) (k : Nat) (x : SV) (hx : RepS W St ρ x (tm.getD k undef)) : Sim (upd T k x) H tm df W St ρ F :=
  { hS with
    slot := fun j => by
      by_cases e : j = k
      · subst e; rw [upd_same]; exact hx
      · rw [upd_other _ _ e]; exact hS.slot j }

theorem RepCs.set1 : ∀ {cs : List CV} {us : List Value} {i : Nat} {x y : CV}, RepCs W St ρ cs us → cs[i]? = some x → (∀ u, RepC W St ρ x u → RepC W St ρ y u) → RepCs W St ρ (cs.set i y) us
  | c :: cs, _, 0, x, y, ⟨u, us', h1, h2, h3, h4⟩, hx, hxy => by
    simp only [List.getElem?_cons_zero, Option.some.injEq] at hx
    subst hx
    exact ⟨u, us', h1, h2, hxy u h3, h4⟩
  | c :: cs, _, i + 1, x, y, ⟨u, us', h1, h2, h3, h4⟩, hx, hxy => ⟨u, us', h1, h2, h3, RepCs.set1 h4 (by simpa using hx) hxy⟩
  | [], _, _, _, _, _, hx, _ => by simp at hx

theorem cell_set (hS : SimH H df W St ρ F) {o : Nat} {cs : List CV} (ho : H o = .bx cs) {i : Nat} {x y : CV} (hi : cs[i]? = some x) (hxy : ∀ u, RepC W St ρ x u → RepC W St ρ y u) :
    SimH (upd H o (.bx (cs.set i y))) df W St ρ F := by
  have hob := hS.obj o
  rw [ho] at hob
  obtain ⟨b, cur, e, h1, h2, h3, h4⟩ := hob
  refine ⟨fun o' => ?_, hS.dj, hS.lt, hS.nst, hS.st, hS.mks⟩
  by_cases e : o' = o
  · subst e; rw [upd_same]; exact ⟨b, cur, _, h1, h2, h3.set1 hi hxy, h4⟩
  · rw [upd_other _ _ e]; exact hS.obj o'

/-- A new number for an empty list. -/
theorem own_nil (hS : SimH H df W St ρ F) {o : Nat} (ho : H o = .fr) (e : TypeId) (t : Ty) :
    SimH (upd H o (.vc e t [])) df W St (upd ρ o (some (.slice none 0 0))) (upd F o none) ∧ ∀ kp, Evo kp W St ρ F W St (upd ρ o (some (.slice none 0 0))) (upd F o none) := by
  have hr := (fr_none hS ho).1
  have key := hS.set (W' := W) o (.vc e t []) (upd ρ o (some (.slice none 0 0))) none rfl rfl rfl (Nat.le_refl _) (fun _ _ _ => rfl) (RLe.upd _ hr) (fun _ h => upd_other _ _ h) (fun b e => by cases e)
    (fun k => by rw [upd_same]; exact ⟨none, 0, rfl, .inl ⟨rfl, rfl, rfl⟩⟩)
  exact ⟨key.1, key.2.2⟩

theorem Sim.ofH (hS : Sim T H tm df W St ρ F) {H' : Hp} {St' : Nat → Nat → Prop} {ρ' : Nat → Option Value} {F' : Nat → Option Nat} (hk : Keeps W St W St') (hρ : RLe ρ ρ') (h : SimH H' df W St' ρ' F') : Sim T H' tm df W St' ρ' F' := hS.of hk hρ h

theorem ghost1_sound {kp : List Nat} {g : G} {T' : Env} {H' : Hp} (h : ghost1 g T H = some (T', H')) : Ent kp T H T' H' := by
  intro tm df W St ρ F hS
  cases g with
  | frz o =>
    simp only [ghost1] at h
    split at h
    · rename_i e t xs ho
      cases h
      let St' : Nat → Nat → Prop := fun b i => St b i ∨ F o = some b
      have hk : Keeps W St W St' := fun b i hs => ⟨.inl hs, rfl⟩
      have hF : ∀ o' b, upd F o none o' = some b → o' ≠ o ∧ F o' = some b := fun o' b e => by
        by_cases h1 : o' = o
        · subst h1; rw [upd_same] at e; cases e
        · rw [upd_other _ _ h1] at e; exact ⟨h1, e⟩
      have hE : Evo kp W St ρ F W St' ρ (upd F o none) :=
        ⟨rfl, rfl, rfl, Nat.le_refl _, fun b hb hn => ⟨rfl, fun i hi => hi.elim id (fun e => absurd e (hn o))⟩, hk, fun o' b e => .inl ⟨o', (hF o' b e).2⟩, fun _ _ _ h => h⟩
      refine ⟨St', ρ, upd F o none, ⟨fun k => (hS.slot k).keep hk (RLe.refl _), fun o' => ?_, fun o1 o2 b e1 e2 => hS.dj o1 o2 b (hF _ _ e1).2 (hF _ _ e2).2, fun o' b e => hS.lt o' b (hF _ _ e).2, fun o' b i e hs => ?_, fun b i hs => ?_, Marks.keep hE hS.mks⟩, hE⟩
      · by_cases h1 : o' = o
        · subst h1
          rw [upd_same, upd_same]
          obtain ⟨A, c, k1, k2⟩ := vc_view hS.h ho hk (fun b i e => .inr e)
          exact ⟨⟨A, c, k1, k2⟩, rfl⟩
        · rw [upd_other _ _ h1, upd_other _ _ h1]
          exact (hS.obj o').keep hk (RLe.refl _) (fun _ _ => rfl)
      · obtain ⟨h1, h2⟩ := hF _ _ e
        rcases hs with hs | hs
        · exact hS.nst o' b i h2 hs
        · exact h1 (hS.dj o' o b h2 hs)
      · rcases hs with hs | hs
        · exact hS.st b i hs
        · exact hS.lt o b hs
    · cases h
  | view k =>
    simp only [ghost1] at h
    split at h
    · rename_i x hx
      split at h
      · rename_i y hy
        cases h
        refine ⟨St, ρ, F, slot_set hS k _ ?_, Evo.refl _ _ _ _ _⟩
        have hs := hS.slot k
        rw [hx] at hs
        by_cases hu : x = .un
        · subst hu; simp [viewC] at hy
        · have h' : (tm.getD k undef).oneCell' = true ∧ RepC W St ρ x (tm.getD k undef) := by cases x <;> first | exact absurd rfl hu | exact hs
          exact RepA.of h'.1 (viewC_rep hS.h hy h'.2)
      · cases h
    · cases h
  | nilv k t =>
    simp only [ghost1] at h
    split at h
    · rename_i hx
      cases h
      have hs := hS.slot k
      rw [hx] at hs
      exact ⟨St, ρ, F, slot_set hS k _ ⟨hs.1, none, 0, hs.2, nilL, fun _ => rfl⟩, Evo.refl _ _ _ _ _⟩
    · cases h
  | own k o e t =>
    simp only [ghost1] at h
    split at h
    · rename_i hx ho
      cases h
      obtain ⟨k1, k2⟩ := own_nil hS.h ho e t
      have hs := hS.slot k
      rw [hx] at hs
      have hr := (fr_none hS.h ho).1
      refine ⟨St, _, _, slot_set (hS.ofH (Keeps.refl _ _) (RLe.upd _ hr) k1) k _ ?_, k2 kp⟩
      exact ⟨hs.1, by rw [upd_same]; exact congrArg some (show _ = _ from hs.2).symm, none, 0, 0, hs.2⟩
    · cases h
  | aview k i =>
    simp only [ghost1] at h
    split at h
    · rename_i cs hT
      split at h
      · rename_i x hx
        split at h
        · rename_i y hy
          cases h
          have hs := hS.slot k
          rw [hT] at hs
          obtain ⟨us, h1, h2⟩ := hs
          exact ⟨St, ρ, F, slot_set hS k _ ⟨us, h1, h2.set1 hx (fun u hu => viewC_rep hS.h hy hu)⟩, Evo.refl _ _ _ _ _⟩
        · cases h
      · cases h
    · cases h
  | anil k i t =>
    simp only [ghost1] at h
    split at h
    · rename_i cs hT
      split at h
      · rename_i hx
        cases h
        have hs := hS.slot k
        rw [hT] at hs
        obtain ⟨us, h1, h2⟩ := hs
        exact ⟨St, ρ, F, slot_set hS k _ ⟨us, h1, h2.set1 hx (fun u hu => ⟨none, 0, hu, nilL, fun _ => rfl⟩)⟩, Evo.refl _ _ _ _ _⟩
      · cases h
    · cases h
  | cview o i =>
    simp only [ghost1] at h
    split at h
    · rename_i cs ho
      split at h
      · rename_i x hx
        split at h
        · rename_i y hy
          cases h
          exact ⟨St, ρ, F, hS.ofH (Keeps.refl _ _) (RLe.refl _) (cell_set hS.h ho hx (fun u hu => viewC_rep hS.h hy hu)), Evo.refl _ _ _ _ _⟩
        · cases h
      · cases h
    · cases h
  | cnil o i t =>
    simp only [ghost1] at h
    split at h
    · rename_i cs ho
      split at h
      · rename_i hx
        cases h
        exact ⟨St, ρ, F, hS.ofH (Keeps.refl _ _) (RLe.refl _) (cell_set hS.h ho hx (fun u hu => ⟨none, 0, hu, nilL, fun _ => rfl⟩)), Evo.refl _ _ _ _ _⟩
      · cases h
    · cases h
  | cown o i o' e t =>
    simp only [ghost1] at h
    split at h
    · rename_i cs ho
      split at h
      · rename_i hx ho'
        cases h
        have hne : o' ≠ o := fun e => by subst e; rw [ho] at ho'; cases ho'
        have hr := (fr_none hS.h ho').1
        obtain ⟨k1, k2⟩ := own_nil hS.h ho' e t
        have k3 := cell_set k1 (o := o) (cs := cs) (by rw [upd_other _ _ (fun e => hne e.symm)]; exact ho) hx (y := .ho o') (fun u hu => ⟨by rw [upd_same]; exact congrArg some (show _ = _ from hu).symm, none, 0, 0, hu⟩)
        rw [upd_comm _ _ _ (fun e => hne e.symm)] at k3
        exact ⟨St, _, _, hS.ofH (Keeps.refl _ _) (RLe.upd _ hr) k3, k2 kp⟩
      · cases h
    · cases h

theorem ghosts_sound {kp : List Nat} : ∀ {gs : List G} {T : Env} {H : Hp} {T' : Env} {H' : Hp}, ghosts gs T H = some (T', H') → Ent kp T H T' H'
  | [], T, H, T', H', h => by cases h; exact Ent.refl _ _ _
  | g :: gs, T, H, T', H', h => by
    simp only [ghosts] at h
    split at h
    · rename_i T1 H1 h1
      exact (ghost1_sound h1).trans (ghosts_sound h)
    · cases h
end

/-! ### What is kept -/

/-- Numbers, new for old. -/
def renM : List (Nat × Nat) → Nat → Option Nat
  | [], _ => none
  | (o, o') :: r, j => if o = j then some o' else renM r j

def keepT (m : Nat → Option Nat) (T : Env) : List Nat → Option (List (Nat × SV))
  | [] => some []
  | k :: ks => match (T k).ren m, keepT m T ks with | some x, some r => some ((k, x) :: r) | _, _ => none

def keepH (m : Nat → Option Nat) (H : Hp) : List (Nat × Nat) → Option (List (Nat × AObj))
  | [] => some []
  | (o, o') :: ks => match (H o).ren m, keepH m H ks with | some x, some r => some ((o', x) :: r) | _, _ => none

def pairsOK (kp : List Nat) (oks : List (Nat × Nat)) : Bool :=
  nodupB (oks.map (·.1)) && nodupB (oks.map (·.2)) && kp.all (fun o => match renM oks o with | some o' => o == o' | none => false)

def keepR (kp : List Nat) (ks : List Nat) (oks : List (Nat × Nat)) (T : Env) (H : Hp) : Option (List (Nat × SV) × List (Nat × AObj)) :=
  if pairsOK kp oks = true then
    match keepT (renM oks) T ks, keepH (renM oks) H oks with
    | some l, some h => some (l, h)
    | _, _ => none
  else none

theorem keepT_spec {m : Nat → Option Nat} {T : Env} : ∀ {ks : List Nat} {l : List (Nat × SV)}, keepT m T ks = some l → ∀ j, (T j).ren m = some (envS l j) ∨ envS l j = .v (.c .un)
  | [], l, h, j => by cases h; exact .inr rfl
  | k :: ks, l, h, j => by
    simp only [keepT] at h
    split at h
    · rename_i x r h1 h2
      cases h
      simp only [envS]
      split
      · rename_i e; subst e; exact .inl h1
      · exact keepT_spec h2 j
    · cases h

theorem keepH_spec {m : Nat → Option Nat} {H : Hp} : ∀ {ks : List (Nat × Nat)} {l : List (Nat × AObj)}, keepH m H ks = some l → ∀ j, (∃ o, (o, j) ∈ ks ∧ (H o).ren m = some (hpS l j)) ∨ (hpS l j = .fr ∧ ∀ o, (o, j) ∉ ks)
  | [], l, h, j => by cases h; exact .inr ⟨rfl, fun o h => by cases h⟩
  | (k, k') :: ks, l, h, j => by
    simp only [keepH] at h
    split at h
    · rename_i x r h1 h2
      cases h
      simp only [hpS]
      split
      · rename_i e; subst e; exact .inl ⟨k, List.mem_cons_self, h1⟩
      · rename_i hne
        rcases keepH_spec h2 j with ⟨o, h3, h4⟩ | ⟨h3, h4⟩
        · exact .inl ⟨o, List.mem_cons_of_mem _ h3, h4⟩
        · exact .inr ⟨h3, fun o ho => by
            rcases List.mem_cons.1 ho with e | e
            · cases e; exact hne rfl
            · exact h4 o e⟩
    · cases h

theorem renM_some : ∀ {l : List (Nat × Nat)} {o o' : Nat}, renM l o = some o' → (o, o') ∈ l
  | (a, b) :: l, o, o', h => by
    simp only [renM] at h
    split at h
    · rename_i e; subst e; cases h; exact List.mem_cons_self
    · exact List.mem_cons_of_mem _ (renM_some h)

theorem pairs_inj : ∀ {l : List (Nat × Nat)} {a b b' : Nat}, nodupB (l.map (·.1)) = true → (a, b) ∈ l → (a, b') ∈ l → b = b'
  | (c, d) :: l, a, b, b', hn, h, h' => by
    simp only [List.map_cons, nodupB, Bool.and_eq_true, Bool.not_eq_true'] at hn
    have hc : ∀ x, (c, x) ∉ l := fun x hx => by
      have := hn.1
      simp at this
      exact this x hx
    rcases List.mem_cons.1 h with e | e <;> rcases List.mem_cons.1 h' with e' | e'
    · cases e; cases e'; rfl
    · cases e; exact absurd e' (hc _)
    · cases e'; exact absurd e (hc _)
    · exact pairs_inj hn.2 e e'

theorem pairs_inj2 : ∀ {l : List (Nat × Nat)} {a a' b : Nat}, nodupB (l.map (·.2)) = true → (a, b) ∈ l → (a', b) ∈ l → a = a'
  | (c, d) :: l, a, a', b, hn, h, h' => by
    simp only [List.map_cons, nodupB, Bool.and_eq_true, Bool.not_eq_true'] at hn
    have hc : ∀ x, (x, d) ∉ l := fun x hx => by
      have := hn.1
      simp at this
      exact this x hx
    rcases List.mem_cons.1 h with e | e <;> rcases List.mem_cons.1 h' with e' | e'
    · cases e; cases e'; rfl
    · cases e; exact absurd e' (hc _)
    · cases e'; exact absurd e (hc _)
    · exact pairs_inj2 hn.2 e e'

/-- The old number, for a new one. -/
def oldM : List (Nat × Nat) → Nat → Option Nat
  | [], _ => none
  | (o, o') :: r, j => if o' = j then some o else oldM r j

theorem oldM_mem : ∀ {l : List (Nat × Nat)} {o j : Nat}, oldM l j = some o → (o, j) ∈ l
  | (a, b) :: l, o, j, h => by
    simp only [oldM] at h
    split at h
    · rename_i e; subst e; cases h; exact List.mem_cons_self
    · exact List.mem_cons_of_mem _ (oldM_mem h)

theorem oldM_of : ∀ {l : List (Nat × Nat)} {o j : Nat}, nodupB (l.map (·.2)) = true → (o, j) ∈ l → oldM l j = some o
  | (a, b) :: l, o, j, hn, h => by
    simp only [oldM]
    split
    · rename_i e
      subst e
      rw [pairs_inj2 hn h List.mem_cons_self]
    · rename_i hne
      rcases List.mem_cons.1 h with e | e
      · cases e; exact absurd rfl hne
      · simp only [List.map_cons, nodupB, Bool.and_eq_true] at hn
        exact oldM_of hn.2 e

theorem keep_sound {kp ks : List Nat} {oks : List (Nat × Nat)} {T : Env} {H : Hp} {l : List (Nat × SV)} {h : List (Nat × AObj)} (hk : keepR kp ks oks T H = some (l, h)) : Ent kp T H (envS l) (hpS h) := by
  intro tm df W St ρ F hS
  unfold keepR at hk
  split at hk
  · rename_i hp
    split at hk
    · rename_i l' h' h1 h2
      cases hk
      simp only [pairsOK, Bool.and_eq_true, List.all_eq_true] at hp
      obtain ⟨⟨n1, n2⟩, hkp⟩ := hp
      let ρ' : Nat → Option Value := fun j => (oldM oks j).bind ρ
      let F' : Nat → Option Nat := fun j => (oldM oks j).bind F
      have hm : ∀ o o', renM oks o = some o' → ρ' o' = ρ o := fun o o' e => by
        show (oldM oks o').bind ρ = ρ o
        rw [oldM_of n2 (renM_some e)]; rfl
      have hF : ∀ j b, F' j = some b → ∃ o, (o, j) ∈ oks ∧ F o = some b := fun j b e => by
        have e : (oldM oks j).bind F = some b := e
        cases ho : oldM oks j with
        | none => rw [ho] at e; cases e
        | some o => rw [ho] at e; exact ⟨o, oldM_mem ho, e⟩
      have hE : Evo kp W St ρ F W St ρ' F' := ⟨rfl, rfl, rfl, Nat.le_refl _, fun b hb hn => ⟨rfl, fun i hi => hi⟩, Keeps.refl _ _, fun o b e => by
          obtain ⟨o', _, h⟩ := hF o b e; exact .inl ⟨o', h⟩, fun o ho v e => by
          have := hkp o ho
          split at this
          · rename_i o' ho'
            simp only [beq_iff_eq] at this
            subst this
            rw [hm _ _ ho']; exact e
          · cases this⟩
      refine ⟨St, ρ', F', ⟨fun k => ?_, fun j => ?_, fun j1 j2 b e1 e2 => ?_, fun j b e => ?_, fun j b i e hs => ?_, hS.st, Marks.keep hE hS.mks⟩, hE⟩
      · rcases keepT_spec h1 k with e | e
        · exact RepS.ren hm e (hS.slot k)
        · rw [e]; trivial
      · rcases keepH_spec h2 j with ⟨o, ho, e⟩ | ⟨e, hno⟩
        · show RepO W St ρ' _ ((oldM oks j).bind ρ) ((oldM oks j).bind F)
          rw [oldM_of n2 ho]
          exact RepO.ren hm e (hS.obj o)
        · rw [e]
          show (oldM oks j).bind ρ = none ∧ (oldM oks j).bind F = none
          cases ho : oldM oks j with
          | none => exact ⟨rfl, rfl⟩
          | some o => exact absurd (oldM_mem ho) (hno o)
      · obtain ⟨o1, m1, f1⟩ := hF j1 b e1
        obtain ⟨o2, m2, f2⟩ := hF j2 b e2
        have := hS.dj o1 o2 b f1 f2
        subst this
        exact pairs_inj n1 m1 m2
      · obtain ⟨o, _, f⟩ := hF j b e; exact hS.lt o b f
      · obtain ⟨o, _, f⟩ := hF j b e; exact hS.nst o b i f hs
    · cases hk
  · cases hk

/-! ### Regions -/

/-- The numbers that are kept: those of the outcome, some of them new for old ones. -/
def oksOf (rn : List (Nat × Nat)) (h' : List (Nat × AObj)) : List (Nat × Nat) := h'.map fun p => (match oldM rn p.1 with | some o => o | none => p.1, p.1)

def endR (kp : List Nat) (gs : List G) (rn : List (Nat × Nat)) (ks : List Nat) (hs : List Nat) (T : Env) (H : Hp) : Option (List (Nat × SV) × List (Nat × AObj)) :=
  match ghosts gs T H with
  | some (T', H') => keepR kp ks (hs.map fun o' => (match oldM rn o' with | some o => o | none => o', o')) T' H'
  | none => none

def regR (P : Program) (tt : Tab) (N : Nat) (ops : Array Oper) (kp : List Nat) (hs : List (Nat × Hint)) (gs : List G) (rn : List (Nat × Nat)) (ks : List Nat) (os : List Nat) (l : List (Nat × SV)) (h : List (Nat × AObj)) :
    Option (Prop × List (Nat × SV) × List (Nat × AObj)) :=
  match runR P tt N ops hs (List.range ops.size) (envS l) (hpS h) with
  | some (C, T, H) => match endR kp gs rn ks os T H with | some (l', h') => some (C, l', h') | none => none
  | none => none

section
variable {P : Program} {tt : Tab} {N : Nat} {kp : List Nat} {Q : Exit → Env → Hp → Prop}

theorem endR_sound {gs : List G} {rn : List (Nat × Nat)} {ks os : List Nat} {T : Env} {H : Hp} {l' : List (Nat × SV)} {h' : List (Nat × AObj)} (h : endR kp gs rn ks os T H = some (l', h')) : Ent kp T H (envS l') (hpS h') := by
  unfold endR at h
  split at h
  · rename_i T' H' hg
    exact (ghosts_sound hg).trans (keep_sound h)
  · cases h

theorem aw_region (hP : TabOK P tt) {id : Nat} {ops : Array Oper} {hs : List (Nat × Hint)} {gs : List G} {rn : List (Nat × Nat)} {l : List (Nat × SV)} {h : List (Nat × AObj)} {C : Prop} {l' : List (Nat × SV)} {h' : List (Nat × AObj)}
    (hr : regR P tt N ops kp hs gs rn (l'.map (·.1)) (h'.map (·.1)) l h = some (C, l', h')) (hC : C) (hq : Q .normal (envS l') (hpS h')) : AW P N kp (.region id ops false) Q (envS l) (hpS h) := by
  unfold regR at hr
  split at hr
  · rename_i C1 T H h1
    split at hr
    · rename_i l1 h2 he
      cases hr
      have key : AW P N kp (.region id ops false) (fun e T' H' => e = .normal ∧ T' = T ∧ H' = H) (envS l) (hpS h) := aw_region_raw hP h1 hC ⟨rfl, rfl, rfl⟩
      exact aw_post key fun e T' H' ⟨e1, e2, e3⟩ => ⟨envS l', hpS h', by rw [e2, e3]; exact endR_sound he, by rw [e1]; exact hq⟩
    · cases hr
  · cases hr

theorem aw_ghost {gs : List G} {rn : List (Nat × Nat)} {l : List (Nat × SV)} {h : List (Nat × AObj)} {l' : List (Nat × SV)} {h' : List (Nat × AObj)} {c : Code}
    (he : endR kp gs rn (l'.map (·.1)) (h'.map (·.1)) (envS l) (hpS h) = some (l', h')) (k : AW P N kp c Q (envS l') (hpS h')) : AW P N kp c Q (envS l) (hpS h) :=
  aw_ent (endR_sound he) k
end
end Al
end Go.Proofs.Ytiplmapndahmmaa

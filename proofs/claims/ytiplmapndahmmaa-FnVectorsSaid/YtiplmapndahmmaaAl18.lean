/- Calls of Go functions: the contract's word is true. -/
import Derived.Test.YtiplmapndahmmaaAl17
namespace Go.Proofs.Ytiplmapndahmmaa
namespace Al
set_option linter.constructorNameAsVariable false
set_option linter.unusedVariables false
set_option linter.unusedSimpArgs false

section
variable {P : Program} {tt : Tab} {H : Hp} {df : List Deferred} {W : World} {St : Nat → Nat → Prop} {ρ : Nat → Option Value} {F : Nat → Option Nat}

theorem nodupB_inj {l : List Nat} (h : nodupB l = true) {i j o : Nat} (hi : l[i]? = some o) (hj : l[j]? = some o) : i = j := by
  have h1 := idxO_nodup h hi
  have h2 := idxO_nodup h hj
  rw [h1] at h2
  exact Option.some.inj h2

theorem live_some (hS : SimH H df W St ρ F) {o : Nat} (h : (H o).live = true) : ∃ v, ρ o = some v := by
  have := hS.obj o
  cases hx : H o <;> rw [hx] at h this <;> first | (simp [AObj.live] at h; done) | skip
  · obtain ⟨b, cur, e, h1, _⟩ := this; exact ⟨_, h1⟩
  · obtain ⟨A, c, h1, _⟩ := this; exact ⟨_, h1⟩
  · obtain ⟨⟨A, c, h1, _⟩, _⟩ := this; exact ⟨_, h1⟩
  · obtain ⟨b, es, clk, h1, _⟩ := this; exact ⟨_, h1⟩

theorem ret_sound (hS : SimH H df W St ρ F) {h : CallH} (hok : h.ok H = true) {r : SV} {Ho : List AObj} (hr : h.r.ren (fun (j : Nat) => h.ren[j]?) = some r) (hHo : mapO (AObj.ren (fun (j : Nat) => h.ren[j]?)) h.Hout = some Ho)
    {v : Value} {W' : World} {St' : Nat → Nat → Prop} {ρ' : Nat → Option Value} {F' : Nat → Option Nat} (hS' : Sim (resE h.r) (hpD h.Hout) #[v] [] W' St' ρ' F')
    (hE : Evo h.kp W (lentSt St F h.lend) (fun (j : Nat) => (h.sel[j]?).bind ρ) (fun (j : Nat) => (h.sel[j]?).bind F) W' St' ρ' F') :
    ∃ St2 ρ2 F2, RepS W' St2 ρ2 r v ∧ SimH (applyUs H ((h.sel.map fun o => (o, .dd)) ++ h.ren.zip Ho)) df W' St2 ρ2 F2 ∧ Keeps W St W' St2 ∧ RLe ρ ρ2 ∧ ∀ kp, Evo kp W St ρ F W' St2 ρ2 F2 := by
  simp only [CallH.ok, Bool.and_eq_true, beq_iff_eq, List.all_eq_true, Bool.not_eq_true', decide_eq_true_eq] at hok
  obtain ⟨⟨⟨⟨⟨⟨hn1, hn2⟩, hlive⟩, hlen⟩, hren⟩, hkp⟩, hsf⟩ := hok
  have hren' := renOK_spec hren
  simp only [Nat.zero_add] at hren'
  obtain ⟨hHl, hHg⟩ := mapO_some hHo
  let F2 : Nat → Option Nat := fun o => match idxO h.ren o with | some j => F' j | none => if o ∈ h.sel then none else F o
  let ρ2 : Nat → Option Value := fun o => match idxO h.ren o with | some j => ρ' j | none => ρ o
  let St2 : Nat → Nat → Prop := fun b i => St' b i ∧ ∀ o ∈ h.lend, F o ≠ some b
  -- lent objects are none of those handed over
  have hlend : ∀ o ∈ h.lend, o ∉ h.sel := fun o ho hs => by have := (hlive o hs).2; simp at this; exact this ho
  have hFc : ∀ b : Nat, (∀ o, F o ≠ some b) → ∀ j : Nat, (h.sel[j]?).bind F ≠ some b := fun b hb j e => by
    cases hj : h.sel[j]? with
    | none => rw [hj] at e; cases e
    | some o => rw [hj] at e; exact hb o e
  have hrl : RLe ρ ρ2 := fun o v hv => by
    show (match idxO h.ren o with | some j => ρ' j | none => ρ o) = some v
    cases hj : idxO h.ren o with
    | none => exact hv
    | some j =>
      rcases hren' j o (idxO_some hj) with ⟨h1, h2⟩ | ⟨_, h2⟩
      · exact hE.rho j h1 v (by rw [h2]; exact hv)
      · have := (fr_none hS h2).1
        rw [this] at hv; cases hv
  have hks : Keeps W St W' St2 := fun b i hs => ⟨⟨(hE.keeps b i (.inl hs)).1, fun o _ e => hS.nst o b i e hs⟩, (hE.keeps b i (.inl hs)).2⟩
  have hF2 : ∀ o b : Nat, F2 o = some b → (∃ j : Nat, h.ren[j]? = some o ∧ F' j = some b) ∨ (idxO h.ren o = none ∧ o ∉ h.sel ∧ F o = some b) := fun o b e => by
    have e : (match idxO h.ren o with | some j => F' j | none => if o ∈ h.sel then none else F o) = some b := e
    cases hj : idxO h.ren o with
    | some j => rw [hj] at e; exact .inl ⟨j, idxO_some hj, e⟩
    | none =>
      rw [hj] at e
      simp only at e
      split at e
      · cases e
      · rename_i hs; exact .inr ⟨rfl, hs, e⟩
  have hFc' : ∀ j b, F' j = some b → (∃ o ∈ h.sel, F o = some b) ∨ W.heap.size ≤ b := fun j b e => by
    rcases hE.own j b e with ⟨j', h1⟩ | h1
    · cases hj : h.sel[j']? with
      | none => rw [hj] at h1; cases h1
      | some o => rw [hj] at h1; exact .inl ⟨o, List.mem_of_getElem? hj, h1⟩
    · exact .inr h1
  have hframe : ∀ o b, o ∉ h.sel → F o = some b → W'.heap[b]? = W.heap[b]? ∧ ∀ i, St' b i → lentSt St F h.lend b i := fun o b hs e =>
    hE.old b (hS.lt o b e) (fun j e' => by
      cases hj : h.sel[j]? with
      | none => rw [hj] at e'; cases e'
      | some o' =>
        rw [hj] at e'
        have := hS.dj o' o b e' e
        subst this
        exact hs (List.mem_of_getElem? hj))
  have hsize := hE.size
  have hevo : ∀ kp, Evo kp W St ρ F W' St2 ρ2 F2 := fun kp => by
    refine ⟨hE.os, hE.tape, hE.output, hE.size, fun b hb hn => ?_, hks, fun o b e => ?_, fun o _ v e => hrl o v e⟩
    · obtain ⟨h1, h2⟩ := hE.old b hb (hFc b hn)
      refine ⟨h1, fun i hi => ?_⟩
      rcases h2 i hi.1 with h3 | ⟨o, _, h3⟩
      · exact h3
      · exact absurd h3 (hn o)
    · rcases hF2 o b e with ⟨j, _, k⟩ | ⟨_, _, k⟩
      · rcases hFc' j b k with ⟨o', _, h1⟩ | h1
        · exact .inl ⟨o', h1⟩
        · exact .inr h1
      · exact .inl ⟨o, k⟩
  have hm : ∀ j o : Nat, h.ren[j]? = some o → ρ2 o = ρ' j := fun j o hj => by
    show (match idxO h.ren o with | some j => ρ' j | none => ρ o) = ρ' j
    rw [idxO_nodup hn2 hj]
  -- from the callee's stable cells to ours
  have hfreeS : ∀ {x : SV} {u : Value}, (h.lend.isEmpty = false → x.sf = true) → RepS W' St' ρ2 x u → RepS W' St2 ρ2 x u := fun {x u} hx hr => by
    cases hl : h.lend.isEmpty with
    | true =>
      have hl' : h.lend = [] := by simpa using hl
      exact hr.keep (fun b i hs => ⟨⟨hs, fun o ho => by rw [hl'] at ho; cases ho⟩, rfl⟩) (RLe.refl _)
    | false => exact hr.free (hx hl)
  have hfreeO : ∀ {x : AObj} {r : Option Value} {f : Option Nat}, (h.lend.isEmpty = false → x.sf = true) → RepO W' St' ρ2 x r f → RepO W' St2 ρ2 x r f := fun {x r f} hx hr => by
    cases hl : h.lend.isEmpty with
    | true =>
      have hl' : h.lend = [] := by simpa using hl
      exact hr.keep (fun b i hs => ⟨⟨hs, fun o ho => by rw [hl'] at ho; cases ho⟩, rfl⟩) (RLe.refl _) (fun _ _ => rfl)
    | false => exact hr.free (hx hl)
  have hsf' : h.lend.isEmpty = false → h.r.sf = true ∧ ∀ x ∈ h.Hout, AObj.sf x = true := fun e => by
    rw [e] at hsf
    simpa using hsf
  refine ⟨St2, ρ2, F2, ?_, ⟨fun o => ?_, fun o1 o2 b e1 e2 => ?_, fun o b e => ?_, fun o b i e hs => ?_, fun b i hs => hS'.st b i hs.1, Marks.keep (hevo []) hS.mks⟩, hks, hrl, hevo⟩
  · have h0 := hS'.slot 0
    have h0 : RepS W' St' ρ' h.r v := h0
    have h1 := RepS.ren (m := fun (j : Nat) => h.ren[j]?) hm hr h0
    have hrs : ∀ {m : Nat → Option Nat} {x y : SV}, x.ren m = some y → x.sf = true → y.sf = true := by
      have hc : ∀ {m : Nat → Option Nat} {x y : CV}, x.ren m = some y → x.sf = true → y.sf = true := fun {m x y} hr hs => by
        cases x <;> simp only [CV.ren] at hr <;> (try split at hr) <;> cases hr <;> first | rfl | exact hs
      have hcs : ∀ {m : Nat → Option Nat} {x y : List CV}, mapO (CV.ren m) x = some y → x.all CV.sf = true → y.all CV.sf = true := fun {m x} => by
        induction x with
        | nil => intro y hr _; cases hr; rfl
        | cons c cs ih =>
          intro y hr hs
          simp only [mapO] at hr
          split at hr
          · rename_i h1 h2
            cases hr
            simp only [List.all_cons, Bool.and_eq_true] at hs ⊢
            exact ⟨hc h1 hs.1, ih h2 hs.2⟩
          · cases hr
      have ha : ∀ {m : Nat → Option Nat} {x y : AV}, x.ren m = some y → x.sf = true → y.sf = true := fun {m x y} hr hs => by
        cases x with
        | c x => simp only [AV.ren] at hr; split at hr <;> cases hr; rename_i h; exact hc h hs
        | ag cs => simp only [AV.ren] at hr; split at hr <;> cases hr; rename_i h; exact hcs h hs
      have has : ∀ {m : Nat → Option Nat} {x y : List AV}, mapO (AV.ren m) x = some y → x.all AV.sf = true → y.all AV.sf = true := fun {m x} => by
        induction x with
        | nil => intro y hr _; cases hr; rfl
        | cons c cs ih =>
          intro y hr hs
          simp only [mapO] at hr
          split at hr
          · rename_i h1 h2
            cases hr
            simp only [List.all_cons, Bool.and_eq_true] at hs ⊢
            exact ⟨ha h1 hs.1, ih h2 hs.2⟩
          · cases hr
      intro m x
      induction x with
      | v x => intro y hr hs; simp only [SV.ren] at hr; split at hr <;> cases hr; rename_i h; exact ha h hs
      | tu xs => intro y hr hs; simp only [SV.ren] at hr; split at hr <;> cases hr; rename_i h; exact has h hs
      | el o sz i d => intro y hr hs; simp only [SV.ren] at hr; split at hr <;> cases hr; rfl
      | gd b x ih => intro y hr hs; simp only [SV.ren] at hr; split at hr <;> cases hr; rename_i h; have := ih h hs; exact this
    exact hfreeS (fun e => hrs hr (hsf' e).1) h1
  · have hap : applyUs H ((h.sel.map fun o => (o, .dd)) ++ h.ren.zip Ho) o = match idxO h.ren o with | some j => Ho.getD j .dd | none => if o ∈ h.sel then .dd else H o := by
      rw [applyUs_append, applyUs_zip _ _ _ _ hn2 (by rw [hlen, hHl]), applyUs_dd]
      cases idxO h.ren o <;> rfl
    rw [hap]
    show RepO W' St2 ρ2 _ (match idxO h.ren o with | some j => ρ' j | none => ρ o) (match idxO h.ren o with | some j => F' j | none => if o ∈ h.sel then none else F o)
    cases hj : idxO h.ren o with
    | some j =>
      have hjr := idxO_some hj
      have hjl : j < Ho.length := by rw [← hHl, ← hlen]; exact (List.getElem?_eq_some_iff.1 hjr).1
      obtain ⟨x, hx1, hx2⟩ := hHg j Ho[j] (by simp [hjl])
      have ho := hS'.obj j
      have hd : hpD h.Hout j = x := by simp [hpD, List.getD, hx1]
      rw [hd] at ho
      have h1 := RepO.ren (m := fun (j : Nat) => h.ren[j]?) hm hx2 ho
      have hg : Ho.getD j .dd = Ho[j] := by simp [List.getD, hjl]
      simp only [hg]
      refine hfreeO (fun e => ?_) h1
      have hxs := (hsf' e).2 x (List.mem_of_getElem? hx1)
      have hc : ∀ {m : Nat → Option Nat} {x y : CV}, x.ren m = some y → x.sf = true → y.sf = true := fun {m x y} hr hs => by
        cases x <;> simp only [CV.ren] at hr <;> (try split at hr) <;> cases hr <;> first | rfl | exact hs
      have hcs : ∀ {m : Nat → Option Nat} {x y : List CV}, mapO (CV.ren m) x = some y → x.all CV.sf = true → y.all CV.sf = true := fun {m x} => by
        induction x with
        | nil => intro y hr _; cases hr; rfl
        | cons c cs ih =>
          intro y hr hs
          simp only [mapO] at hr
          split at hr
          · rename_i h1 h2
            cases hr
            simp only [List.all_cons, Bool.and_eq_true] at hs ⊢
            exact ⟨hc h1 hs.1, ih h2 hs.2⟩
          · cases hr
      cases x with
      | bx cs =>
        simp only [AObj.ren] at hx2
        split at hx2
        · rename_i ds hds
          rw [← Option.some.inj hx2]
          exact hcs hds hxs
        · cases hx2
      | fr => rw [← Option.some.inj hx2]; exact hxs
      | dd => rw [← Option.some.inj hx2]; exact hxs
      | vc e t xs => rw [← Option.some.inj hx2]; exact hxs
      | vz t xs => rw [← Option.some.inj hx2]; exact hxs
      | mp k v kvs => rw [← Option.some.inj hx2]; exact hxs
    | none =>
      by_cases hs : o ∈ h.sel
      · simp only [if_pos hs]; exact rfl
      · simp only [if_neg hs]
        exact (hS.obj o).keep hks hrl (fun b e => (hframe o b hs e).1)
  · rcases hF2 o1 b e1 with ⟨j1, r1, k1⟩ | ⟨n1, s1, k1⟩ <;> rcases hF2 o2 b e2 with ⟨j2, r2, k2⟩ | ⟨n2, s2, k2⟩
    · have := hS'.dj j1 j2 b k1 k2
      subst this
      rw [r1] at r2
      exact Option.some.inj r2
    · rcases hFc' j1 b k1 with ⟨o', h1, h2⟩ | h1
      · exact absurd (hS.dj o' o2 b h2 k2 ▸ h1) s2
      · have := hS.lt o2 b k2; omega
    · rcases hFc' j2 b k2 with ⟨o', h1, h2⟩ | h1
      · exact absurd (hS.dj o' o1 b h2 k1 ▸ h1) s1
      · have := hS.lt o1 b k1; omega
    · exact hS.dj o1 o2 b k1 k2
  · rcases hF2 o b e with ⟨j, _, k⟩ | ⟨_, _, k⟩
    · exact hS'.lt j b k
    · have := hS.lt o b k; omega
  · rcases hF2 o b e with ⟨j, _, k⟩ | ⟨_, s, k⟩
    · exact hS'.nst j b i k hs.1
    · rcases (hframe o b s k).2 i hs.1 with h1 | ⟨o', ho', h1⟩
      · exact hS.nst o b i k h1
      · exact hs.2 o' ho' h1

theorem call_sound (hS : SimH H df W St ρ F) {h : CallH} {ev : Operand → SV} {a : Act} (hev : ∀ y, RepS W St ρ (ev y) (a.eval y)) {fop : Operand} {args : List Operand} {E : Eff} (he : evCall P H h ev fop args = some E) (hC : ∀ p ∈ E.C, p)
    (ro : Option Nat) (n : Nat) : ∃ os : Array Value, a.eval fop = .func (.func h.f) #[] os ∧ (∃ fn, P.funcs[h.f]? = some fn ∧ (fn.name == "runtime.NumGoroutine") = false ∧ fn.body.isNone = false) ∧
      CallsIn (wideR ro) n P h.f ((args.map a.eval).toArray ++ os) W fun e W' =>
        ∃ v St' ρ' F', e = .returned v ∧ RepS W' St' ρ' E.v v ∧ SimH (applyUs H E.us) df W' St' ρ' F' ∧ Keeps W St W' St' ∧ RLe ρ ρ' ∧ ∀ kp, Evo kp W St ρ F W' St' ρ' F' := by
  unfold evCall at he
  split at he
  · rename_i f os hf
    split at he
    · rename_i hk
      obtain ⟨rfl, hbx⟩ := hk
      split at he
      · rename_i xs hxs
        split at he
        · rename_i ys Hin hys hHin
          obtain ⟨h1, r, Ho, e1, e2, e3, hok, hA, hr, hHo, hv, hus⟩ : ∃ (h1 : CallH) (r : SV) (Ho : List AObj), h1.f = h.f ∧ h1.sel = h.sel ∧ h1.lend = h.lend ∧ h1.ok H = true ∧ ACall P h.f ys Hin h1.kp h1.r h1.Hout ∧
              h1.r.ren (fun (j : Nat) => h1.ren[j]?) = some r ∧ mapO (AObj.ren (fun (j : Nat) => h1.ren[j]?)) h1.Hout = some Ho ∧ E.v = r ∧ applyUs H E.us = applyUs H ((h1.sel.map fun o => (o, .dd)) ++ h1.ren.zip Ho) := by
            split at he
            · split at he
              · rename_i hok
                split at he
                · rename_i r hr
                  cases he
                  have hnd : nodupB h.sel = true := by
                    have := hok
                    simp only [CallH.ok, Bool.and_eq_true] at this
                    exact this.1.1.1.1.1.1
                  have hback : mapO (AObj.ren (fun (j : Nat) => h.sel[j]?)) Hin = some (h.sel.map H) := mapO_back (fun _ _ => AObj.back (fun o o' e => idxO_some e)) hHin
                  refine ⟨h.hush Hin, r, h.sel.map H, rfl, rfl, rfl, hok, hC _ (List.mem_singleton.2 rfl), hr, hback, rfl, ?_⟩
                  funext o
                  show H o = applyUs H ((h.sel.map fun o => (o, .dd)) ++ h.sel.zip (h.sel.map H)) o
                  rw [applyUs_append, applyUs_zip _ _ _ _ hnd (by simp), applyUs_dd]
                  cases hj : idxO h.sel o with
                  | none => simp [idxO_none hj]
                  | some j => simp [List.getD, idxO_some hj]
                · cases he
              · cases he
            · split at he
              · rename_i hok
                split at he
                · rename_i r Ho hr hHo
                  cases he
                  exact ⟨h, r, Ho, rfl, rfl, rfl, hok, hC _ (List.mem_singleton.2 rfl), hr, hHo, rfl, rfl⟩
                · cases he
              · cases he
          rw [← e1] at hA hf ⊢
          rw [← e2] at hys hHin
          rw [← e3] at hxs
          rw [hv, hus]
          clear hv hus he hC e1 e2 e3
          generalize h1 = h at *
          have hfop := hev fop
          rw [hf] at hfop
          obtain ⟨_, vs, hvs, hfv⟩ := hfop
          obtain ⟨hol, hog⟩ := osOf_ps hvs
          refine ⟨vs.toArray, hfv, hA.1, ?_⟩
          have hok' := hok
          simp only [CallH.ok, Bool.and_eq_true, beq_iff_eq, List.all_eq_true, Bool.not_eq_true', decide_eq_true_eq] at hok'
          obtain ⟨⟨⟨⟨⟨⟨hn1, hn2⟩, hlive⟩, hlen⟩, hren⟩, hkp⟩, hsf⟩ := hok'
          obtain ⟨c1, c2⟩ := castAll_rep hS (us := args.map a.eval) hxs (by simp) (map_rep hev args)
          obtain ⟨y1, y2⟩ := mapO_some hys
          obtain ⟨i1, i2⟩ := mapO_some hHin
          have hlend : ∀ o ∈ h.lend, o ∉ h.sel := fun o ho hs => by have := (hlive o hs).2; simp at this; exact this ho
          have hkl : Keeps W St W (lentSt St F h.lend) := keeps_lent h.lend
          have hmm : ∀ o o' : Nat, idxO h.sel o = some o' → (h.sel[o']?).bind ρ = ρ o := fun o o' ho => by rw [idxO_some ho]; rfl
          have hsim : Sim (argE ys) (hpF Hin) ((args.map a.eval).toArray ++ vs.toArray) [] W (lentSt St F h.lend) (fun (j : Nat) => (h.sel[j]?).bind ρ) (fun (j : Nat) => (h.sel[j]?).bind F) := by
            have hFb : ∀ j b : Nat, (h.sel[j]?).bind F = some b → ∃ o : Nat, h.sel[j]? = some o ∧ F o = some b := fun j b e => by
              cases hj : h.sel[j]? with
              | none => rw [hj] at e; cases e
              | some o => rw [hj] at e; exact ⟨o, rfl, e⟩
            refine ⟨fun k => ?_, fun j => ?_, fun j1 j2 b e1 e2 => ?_, fun j b e => ?_, fun j b i e hs => ?_, fun b i hs => ?_, trivial⟩
            · show RepS W _ _ (ys.getD k (.v (.c .un))) _
              cases hk : ys[k]? with
              | none => simp only [List.getD, hk, Option.getD_none]; exact trivial
              | some y =>
                simp only [List.getD, hk, Option.getD_some]
                obtain ⟨x, hx, hxy⟩ := y2 k y hk
                have key : ∃ u, ((args.map a.eval).toArray ++ vs.toArray).getD k undef = u ∧ RepS W (lentSt St F h.lend) ρ x u := by
                  have hgd : ((args.map a.eval).toArray ++ vs.toArray).getD k undef = ((args.map a.eval) ++ vs).getD k undef := by
                    rw [Array.getD_eq_getD_getElem?]; simp [List.getD]
                  rw [hgd]
                  by_cases hlt : k < xs.length
                  · rw [List.getElem?_append_left hlt] at hx
                    have hlt' : k < (args.map a.eval).length := by rw [← c1]; exact hlt
                    have hu : ((args.map a.eval) ++ vs)[k]? = some (args.map a.eval)[k] := by rw [List.getElem?_append_left hlt', List.getElem?_eq_getElem hlt']
                    refine ⟨_, rfl, ?_⟩
                    simp only [List.getD, hu, Option.getD_some]
                    exact c2 k x _ hx (List.getElem?_eq_getElem hlt')
                  · rw [List.getElem?_append_right (by omega), List.getElem?_map] at hx
                    cases ho : os[k - xs.length]? with
                    | none => rw [ho] at hx; cases hx
                    | some o =>
                      rw [ho] at hx
                      cases hx
                      obtain ⟨w, hw1, hw2⟩ := hog _ o ho
                      have hb : (H o).isBx = true := List.all_eq_true.1 hbx o (List.mem_of_getElem? ho)
                      have hob := hS.obj o
                      cases hx : H o <;> rw [hx] at hb hob <;> simp [AObj.isBx] at hb
                      obtain ⟨b, cur, e, g1, _⟩ := hob
                      rw [hw2] at g1
                      cases g1
                      have hu : ((args.map a.eval) ++ vs)[k]? = some (.pointer (some ⟨b, 0, none⟩)) := by
                        rw [List.getElem?_append_right (by rw [← c1]; omega), ← c1]; exact hw1
                      refine ⟨_, rfl, ?_⟩
                      simp only [List.getD, hu, Option.getD_some]
                      exact ⟨rfl, b, hw2, rfl⟩
                obtain ⟨u, hu1, hu2⟩ := key
                rw [hu1]
                exact hu2.ren hmm hxy
            · show RepO W _ _ (Hin.getD j .fr) _ _
              cases hj : Hin[j]? with
              | none =>
                simp only [List.getD, hj, Option.getD_none]
                have : h.sel[j]? = none := by
                  rw [List.getElem?_eq_none_iff] at hj ⊢
                  rw [← i1, List.length_map] at hj
                  exact hj
                simp only [this]
                exact ⟨rfl, rfl⟩
              | some x =>
                simp only [List.getD, hj, Option.getD_some]
                obtain ⟨z, hz, hzx⟩ := i2 j x hj
                rw [List.getElem?_map] at hz
                cases hsj : h.sel[j]? with
                | none => rw [hsj] at hz; cases hz
                | some o =>
                  rw [hsj] at hz
                  cases hz
                  simp only [Option.bind_some]
                  exact ((hS.obj o).keep hkl (RLe.refl _) (fun _ _ => rfl)).ren hmm hzx
            · obtain ⟨o1, s1, f1⟩ := hFb j1 b e1
              obtain ⟨o2, s2, f2⟩ := hFb j2 b e2
              have := hS.dj o1 o2 b f1 f2
              subst this
              exact nodupB_inj hn1 s1 s2
            · obtain ⟨o, _, f1⟩ := hFb j b e
              exact hS.lt o b f1
            · obtain ⟨o, s1, f1⟩ := hFb j b e
              rcases hs with hs | ⟨o', ho', hs⟩
              · exact hS.nst o b i f1 hs
              · have := hS.dj o o' b f1 hs
                subst this
                exact hlend o ho' (List.mem_of_getElem? s1)
            · rcases hs with hs | ⟨o', _, hs⟩
              · exact hS.st b i hs
              · exact hS.lt o' b hs
          have hlenA : ((args.map a.eval).toArray ++ vs.toArray).size = ys.length := by
            rw [← y1]; simp [c1, hol]
          refine CallsIn.mono (callsIn_wideR (hA.2 n _ W _ _ _ hlenA hsim)) fun e W' hp => ?_
          obtain ⟨v, St', ρ', F', rfl, hS', hE⟩ := hp
          · obtain ⟨St2, ρ2, F2, g1, g2, g3, g4, g5⟩ := ret_sound hS hok hr hHo hS' hE
            exact ⟨v, St2, ρ2, F2, rfl, g1, g2, g3, g4, g5⟩
        · cases he
      · cases he
    · cases he
  · cases he
end
end Al
end Go.Proofs.Ytiplmapndahmmaa

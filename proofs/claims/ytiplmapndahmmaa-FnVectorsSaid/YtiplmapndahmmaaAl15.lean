/- The reckoning is right: all operations. -/
import Derived.Test.YtiplmapndahmmaaAl14
namespace Go.Proofs.Ytiplmapndahmmaa
namespace Al
set_option linter.constructorNameAsVariable false
set_option linter.unusedVariables false
set_option linter.unusedSimpArgs false

section
variable {P : Program} {tt : Tab} {H : Hp} {df : List Deferred} {W : World} {St : Nat → Nat → Prop} {ρ : Nat → Option Value} {F : Nat → Option Nat}

theorem evOp_sound (hP : TabOK P tt) (hS : SimH H df W St ρ F) {id : Nat} {ev : Operand → SV} {a : Act} (hev : ∀ y, RepS W St ρ (ev y) (a.eval y)) {E : Eff} (o : Oper) (h : evOp tt H id ev o = some E) (hC : ∀ p ∈ E.C, p) :
    OpR P (execOp a.eval o) H df W St ρ F E.v E.us := by
  unfold evOp at h
  split at h
  · rename_i x ho
    cases h
    exact OpR.pure hS (by simp [execOp, ho]) (hev x)
  · rename_i x ho
    cases h
    exact OpR.pure hS (by simp [execOp, ho]) (hev x)
  · rename_i t ho
    split at h
    · rename_i ti ht hid
      cases h
      exact evAlloc_sound hP hS ht hid o ho
    · cases h
  · rename_i t x ho
    split at h
    · rename_i y hx hid
      split at h
      · rename_i hk
        cases h
        exact evBox_sound hS (hx ▸ hev x) hk hid o ho
      · cases h
    · cases h
  · rename_i t ps ho
    split at h
    · rename_i ti ht
      split at h
      · rename_i fs hd
        split at h
        · rename_i hall
          split at h
          · rename_i cs hcs
            cases h
            exact evBuild_sound hP hS ht hd hall hev hcs o ho
          · cases h
        · cases h
      · cases h
    · cases h
  · rename_i t n ps ho
    split at h
    · rename_i ti ht hid
      split at h
      · rename_i e hd
        split at h
        · rename_i te he
          split at h
          · rename_i hk
            split at h
            · rename_i xs hxs
              cases h
              exact evBuildSlice_sound hP hS ht hd he hk.1 hid hk.2.1 hk.2.2 hev hxs o ho
            · cases h
          · cases h
        · cases h
      · cases h
    · cases h
  · rename_i t x ho
    split at h
    · rename_i y hy
      cases h
      exact evLoad_sound hP hS (hev x) hy o ho
    · cases h
  · rename_i t x y ho
    split at h
    · rename_i us hus
      cases h
      exact evStore_sound hP hS (hev x) (hev y) hus o ho
    · cases h
  · rename_i x ho
    have hx := hev x
    split at h
    · rename_i ob d hs
      cases h
      rw [hs] at hx
      have hx' := hx
      obtain ⟨_, b, _, hb⟩ := hx' 
      exact OpR.pure hS (by simp [execOp, ho, hb]) (hb ▸ hx)
    · rename_i u y hs
      cases h
      rw [hs] at hx
      have hx' := hx
      obtain ⟨_, b, off, us, hb, _⟩ := hx' 
      exact OpR.pure hS (by simp [execOp, ho, hb]) (hb ▸ hx)
    · rename_i ob sz i d hs
      cases h
      rw [hs] at hx
      have hx' := hx
      obtain ⟨b, n, c, _, _, _, hb⟩ := hx' 
      exact OpR.pure hS (by simp [execOp, ho, hb]) (hb ▸ hx)
    · cases h
  · rename_i op t x y t' ho
    split at h
    · rename_i C c hc
      cases h
      exact evBin_sound hP hS (hev x) (hev y) hc hC o ho
    · cases h
  · rename_i op t x ho
    split at h
    · rename_i c hc
      cases h
      exact evUn_sound hS (hev x) hc o ho
    · cases h
  · rename_i s d x ho
    split at h
    · rename_i ts td k n hs hd hx
      split at h
      · rename_i k' hk
        cases h
        exact evConvert_sound hP hS hs hd hk (rep_int (hx ▸ hev x)) o ho
      · cases h
    · cases h
  · rename_i f first cap ho
    split at h
    · rename_i hf
      split at h
      · rename_i os hos
        cases h
        have hf0 : first = #[] := Array.eq_empty_of_size_eq_zero hf
        subst hf0
        refine OpR.pure hS (u := .func (.func f) #[] (cap.toList.map a.eval).toArray) ?_ ⟨rfl, cap.toList.map a.eval, osOf_rep hos (by simp) (map_rep hev _), rfl⟩
        have : (cap.map a.eval) = (cap.toList.map a.eval).toArray := by rw [← Array.toList_map]
        simp [execOp, ho, Instr.makeFunc]
        exact this
      · cases h
    · cases h
  · rename_i t l c ho
    unfold evMakeSlice at h
    split at h
    · rename_i ti n m ht hl hc
      split at h
      · rename_i e hd
        split at h
        · rename_i te he hid
          split at h
          · rename_i hk
            cases h
            obtain ⟨h0, h1, h2⟩ := hC _ (List.mem_singleton.2 rfl)
            exact evMake_sound hP hS ht hd he hk.1 hk.2.1 hk.2.2 hid (rep_int (hl ▸ hev l)) (rep_int (hc ▸ hev c)) h0 h1 h2 o ho
          · cases h
        · cases h
      · cases h
    · cases h
  · rename_i t x lo hi mx ho
    split at h
    · rename_i C c hc
      cases h
      exact evSlice_sound hP hS hev hc hC o ho
    · cases h
  · rename_i s x f ho
    split at h
    · rename_i y hy
      cases h
      exact evFieldAddr_sound hP hS (hev x) hy o ho
    · cases h
  · rename_i s x f ho
    split at h
    · rename_i y hy
      cases h
      exact evField_sound hP hS (hev x) hy o ho
    · cases h
  · rename_i t x i ho
    split at h
    · rename_i C y hy
      cases h
      exact evIndexAddr_sound hP hS (hev x) (hev i) hy hC o ho
    · cases h
  · rename_i t x i ho
    split at h
    · rename_i ti s k n ht hx hi
      split at h
      · rename_i hd
        cases h
        obtain ⟨h0, h1⟩ := hC _ (List.mem_singleton.2 rfl)
        exact evIndexStr_sound hP hS ht hd (rep_str (hx ▸ hev x)) (rep_int (hi ▸ hev i)) h0 h1 o ho
      · cases h
    · cases h
  · rename_i t i ho
    have ht := hev t
    split at h
    · rename_i xs hs
      split at h
      · rename_i x hx
        cases h
        rw [hs] at ht
        obtain ⟨us, e1, h1⟩ := ht
        obtain ⟨u, h2, h3⟩ := h1.get hx
        exact OpR.pure hS (u := u) (by simp [execOp, ho, Instr.extract, e1, h2]) h3
      · cases h
    · cases h
  · rename_i c ho
    obtain ⟨callee, args, ats⟩ := c
    split at h
    · rename_i hcal
      subst hcal
      simp only at h
      split at h
      · rename_i x t hx ht
        split at h
        · rename_i ti hti
          simp only [evLen, Option.map_eq_some_iff] at h
          obtain ⟨n, hn, rfl⟩ := h
          have ha : args = #[x] := by rw [← hx]
          subst ha
          exact evLen_sound hP hS hti ht (hev x) hn o ho
        · cases h
      · cases h
    · rename_i hcal
      subst hcal
      simp only at h
      split at h
      · rename_i h01
        split at h
        · rename_i t x y ht hx
          have ha : args = #[x, y] := by rw [← hx]
          subst ha
          have ht1 : ats[1]? = some t := by rw [← h01]; exact ht
          unfold evAppend at h
          split at h
          · rename_i ti hti
            split at h
            · rename_i e hd
              split at h
              · rename_i te he hid
                split at h
                · rename_i hk
                  obtain ⟨hk1, hk2, hk3⟩ := hk
                  split at h
                  · rename_i ys hys
                    split at h
                    · rename_i hx
                      cases h
                      have hb := hC _ (List.mem_singleton.2 rfl)
                      exact append_sound hP hS hti hd he hk1 hid ht ht1 (hev x) (hev y) (hx ▸ Grows.nl) hys (fun e => by cases e) hk2 (by simpa using hb) o ho
                    · rename_i ob hx
                      split at h
                      · rename_i e' u xs hob
                        split at h
                        · rename_i hee
                          subst hee
                          split at h
                          · rename_i xs' hxs
                            obtain ⟨hu, hxs⟩ := castL_some hxs
                            subst hu
                            cases hxs
                            cases h
                            have hb := hC _ (List.mem_singleton.2 rfl)
                            exact append_sound hP hS hti hd he hk1 hid ht ht1 (hev x) (hev y) (hx ▸ Grows.ho hob) hys (fun e => by cases e) hk2 hb o ho
                          · cases h
                        · cases h
                      · cases h
                    · rename_i u xs hx
                      split at h
                      · rename_i xs' hxs
                        obtain ⟨hu, hxs⟩ := castL_some hxs
                        subst hu
                        cases hxs
                        cases h
                        have hb := hC _ (List.mem_cons_of_mem _ (List.mem_singleton.2 rfl))
                        have hb0 := hC _ (List.mem_cons_self)
                        exact append_sound hP hS hti hd he hk1 hid ht ht1 (hev x) (hev y) (hx ▸ Grows.ls) hys (fun _ => hb0.imp List.eq_nil_of_length_eq_zero (fun h => h)) hk2 hb o ho
                      · cases h
                    · cases h
                  · cases h
                · cases h
              · cases h
            · cases h
          · cases h
        · cases h
      · cases h
    · rename_i hcal
      subst hcal
      simp only at h
      split at h
      · rename_i m r hl
        split at h
        · rename_i n hn
          cases h
          obtain ⟨x, r', ha, hx, hr⟩ : ∃ x r', args.toList = x :: r' ∧ ev x = .v (.c (.int .i64 m)) ∧ r'.map ev = r := by
            cases hq : args.toList with
            | nil => exact (by rw [hq] at hl; simp at hl)
            | cons x r' => rw [hq] at hl; simp only [List.map_cons, List.cons.injEq] at hl; exact ⟨x, r', rfl, hl.1, hl.2⟩
          subst hr
          have hm := rep_int (hx ▸ hev x)
          have hrun := maxL_run (P := P) (us := r'.map a.eval) hn (by simp) (map_rep hev r')
          obtain ⟨cs, hcs⟩ := run_call_builtin (P := P) (W := W) (ev := a.eval) o ho
          refine OpR.pure hS ?_ (int_rep _ _)
          rw [hcs]
          simp only [builtin, Builtin.max_, Array.toList_map, ha, List.map_cons, hm, Sem.run_bind, hrun, Result.andThen_ok, Sem.run_pure]
        · cases h
      · cases h
    · rename_i hcal
      subst hcal
      simp only at h
      split at h
      · rename_i m r hl
        split at h
        · rename_i n hn
          cases h
          obtain ⟨x, r', ha, hx, hr⟩ : ∃ x r', args.toList = x :: r' ∧ ev x = .v (.c (.int .i64 m)) ∧ r'.map ev = r := by
            cases hq : args.toList with
            | nil => exact (by rw [hq] at hl; simp at hl)
            | cons x r' => rw [hq] at hl; simp only [List.map_cons, List.cons.injEq] at hl; exact ⟨x, r', rfl, hl.1, hl.2⟩
          subst hr
          have hm := rep_int (hx ▸ hev x)
          have hrun := minL_run (P := P) (us := r'.map a.eval) hn (by simp) (map_rep hev r')
          obtain ⟨cs, hcs⟩ := run_call_builtin (P := P) (W := W) (ev := a.eval) o ho
          refine OpR.pure hS ?_ (int_rep _ _)
          rw [hcs]
          simp only [builtin, Builtin.min_, Array.toList_map, ha, List.map_cons, hm, Sem.run_bind, hrun, Result.andThen_ok, Sem.run_pure]
        · cases h
      · cases h
    · cases h
  · cases h
end
end Al
end Go.Proofs.Ytiplmapndahmmaa

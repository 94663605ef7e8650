/- Stores in the evaluator Vm are the machine's. Own work; lemmas. No condition. -/
import Derived.Test.YthnkkchlgepdaaaVmT
namespace Go.Vm
open Go.RowKit
set_option linter.unusedVariables false

section
variable {P : Program} {w : World} {env : Env} {tmps : Array Value} {Of Rf : Nat → List Nat} {o : Oper} {d : Nat}

theorem flat_sub {t : Ty} {a : An} {x : t.den} {o n : Nat} {dd : Dat} (ht : t.flat = true) (h : sub t a x o n = some dd) : dd.t.flat = true := by
  induction t generalizing a o with
  | pair t u iht ihu =>
    simp only [Ty.flat, Bool.and_eq_true] at ht
    simp only [sub] at h
    cases e1 : ((o == 0) && (n == t.sz + u.sz)) with
    | true => simp only [e1, cond_true, Option.some.injEq] at h; subst h; simp [Ty.flat, ht]
    | false =>
      simp only [e1, cond_false] at h
      cases e2 : Nat.ble (o + n) t.sz with
      | true => simp only [e2, cond_true] at h; exact iht ht.1 h
      | false =>
        simp only [e2, cond_false] at h
        cases e3 : Nat.ble t.sz o with
        | true => simp only [e3, cond_true] at h; exact ihu ht.2 h
        | false => simp [e3] at h
  | int k | bool | str | sl e =>
    simp only [sub] at h
    cases e1 : ((o == 0) && (n == 1)) with
    | true => simp only [e1, cond_true, Option.some.injEq] at h; subst h; exact ht
    | false => simp [e1] at h

/-- a flat part changed: the slices of the whole are as they were -/
theorem sub_upd_flat {t : Ty} {a : An} {x : t.den} {o n : Nat} {old nw : Dat} {p : An × t.den} (h : sub t a x o n = some old) (hf : old.t.flat = true) (hu : upd t a x o n nw = some p) {j : Nat} {dd : Dat} (hs : sub t a x j 1 = some dd) (hd : dd.t.flat = false) :
    sub t p.1 p.2 j 1 = some dd := by
  induction t generalizing a o j with
  | pair t u iht ihu =>
    simp only [sub] at h hs
    simp only [upd] at hu
    have hj1 : ((j == 0) && (1 == t.sz + u.sz)) = false := by have := t.sz_pos; have := u.sz_pos; simp; omega
    simp only [hj1, cond_false] at hs
    cases e1 : ((o == 0) && (n == t.sz + u.sz)) with
    | true =>
      simp only [e1, cond_true, Option.some.injEq] at h
      subst h
      simp only [Ty.flat, Bool.and_eq_true] at hf
      exfalso
      cases e2 : Nat.ble (j + 1) t.sz with
      | true => simp only [e2, cond_true] at hs; have := flat_sub hf.1 hs; rw [this] at hd; cases hd
      | false =>
        simp only [e2, cond_false] at hs
        cases e3 : Nat.ble t.sz j with
        | true => simp only [e3, cond_true] at hs; have := flat_sub hf.2 hs; rw [this] at hd; cases hd
        | false => simp [e3] at hs
    | false =>
      simp only [e1, cond_false] at h hu
      simp only [sub, hj1, cond_false]
      cases e2 : Nat.ble (o + n) t.sz with
      | true =>
        simp only [e2, cond_true, Option.map_eq_some_iff] at h hu
        obtain ⟨r, hr, rfl⟩ := hu
        simp only [An.mkp_l, An.mkp_r]
        cases e4 : Nat.ble (j + 1) t.sz with
        | true => simp only [e4, cond_true] at hs ⊢; exact iht h hr hs
        | false => simp only [e4, cond_false] at hs ⊢; exact hs
      | false =>
        simp only [e2, cond_false] at h hu
        cases e3 : Nat.ble t.sz o with
        | false => simp [e3] at h
        | true =>
          simp only [e3, cond_true, Option.map_eq_some_iff] at h hu
          obtain ⟨r, hr, rfl⟩ := hu
          simp only [An.mkp_l, An.mkp_r]
          cases e4 : Nat.ble (j + 1) t.sz with
          | true => simp only [e4, cond_true] at hs ⊢; exact hs
          | false =>
            simp only [e4, cond_false] at hs ⊢
            cases e5 : Nat.ble t.sz j with
            | true => simp only [e5, cond_true] at hs ⊢; exact ihu h hr hs
            | false => simp [e5] at hs
  | int k | bool | str | sl e =>
    simp only [sub] at h hs
    cases e1 : ((o == 0) && (n == 1)) with
    | false => simp [e1] at h
    | true =>
      simp only [e1, cond_true, Option.some.injEq] at h
      subst h
      cases e2 : ((j == 0) && (1 == 1)) with
      | false => rw [e2] at hs; cases hs
      | true =>
        simp only [e2, cond_true, Option.some.injEq] at hs
        subst hs
        exfalso
        rw [hf] at hd; cases hd

/-- one cell changed -/
theorem sub_upd_one {t : Ty} {a : An} {x : t.den} {o : Nat} {old nw : Dat} {p : An × t.den} (h : sub t a x o 1 = some old) (ht : nw.t = old.t) (hu : upd t a x o 1 nw = some p) (j : Nat) :
    sub t p.1 p.2 j 1 = if j = o then some nw else sub t a x j 1 := by
  induction t generalizing a o j with
  | pair t u iht ihu =>
    have hj1 : ∀ j : Nat, ((j == 0) && (1 == t.sz + u.sz)) = false := by intro j; have := t.sz_pos; have := u.sz_pos; simp; omega
    simp only [sub, hj1, cond_false] at h ⊢
    simp only [upd, hj1, cond_false] at hu
    cases e2 : Nat.ble (o + 1) t.sz with
    | true =>
      simp only [e2, cond_true, Option.map_eq_some_iff] at h hu
      obtain ⟨r, hr, rfl⟩ := hu
      simp only [An.mkp_l, An.mkp_r]
      have e2' : o + 1 ≤ t.sz := by simpa [Nat.ble_eq] using e2
      cases e4 : Nat.ble (j + 1) t.sz with
      | true => simp only [cond_true]; exact iht h hr j
      | false =>
        have e4' : ¬ j + 1 ≤ t.sz := by intro hh; rw [← Nat.ble_eq] at hh; rw [hh] at e4; cases e4
        rw [if_neg (by omega)]; try rfl
    | false =>
      have e2' : ¬ o + 1 ≤ t.sz := by intro hh; rw [← Nat.ble_eq] at hh; rw [hh] at e2; cases e2
      simp only [e2, cond_false] at h hu
      cases e3 : Nat.ble t.sz o with
      | false => simp [e3] at h
      | true =>
        have e3' : t.sz ≤ o := by simpa [Nat.ble_eq] using e3
        simp only [e3, cond_true, Option.map_eq_some_iff] at h hu
        obtain ⟨r, hr, rfl⟩ := hu
        simp only [An.mkp_l, An.mkp_r]
        cases e4 : Nat.ble (j + 1) t.sz with
        | true =>
          have e4' : j + 1 ≤ t.sz := by simpa [Nat.ble_eq] using e4
          rw [if_neg (by omega)]; try rfl
        | false =>
          simp only [cond_false]
          cases e5 : Nat.ble t.sz j with
          | true =>
            have e5' : t.sz ≤ j := by simpa [Nat.ble_eq] using e5
            simp only [cond_true]
            rw [ihu h hr (j - t.sz)]
            by_cases hj : j = o
            · subst hj; simp
            · rw [if_neg (by omega), if_neg hj]
          | false =>
            have e5' : ¬ t.sz ≤ j := by intro hh; rw [← Nat.ble_eq] at hh; rw [hh] at e5; cases e5
            simp only [cond_false]
            rw [if_neg (by omega)]; try rfl
  | int k | bool | str | sl e =>
    simp only [sub] at h ⊢
    cases e1 : ((o == 0) && (1 == 1)) with
    | false => rw [e1] at h; cases h
    | true =>
      simp only [e1, cond_true, Option.some.injEq] at h
      subst h
      simp only [upd, e1, cond_true] at hu
      have := Dat.as_eq hu
      subst this
      simp at e1
      subst e1
      by_cases hj : j = 0
      · subst hj; simp
      · have e3 : (j == 0) = false := by simpa using hj
        simp [hj, e3]

/-- the cells of flat data are no headers -/
theorem flat_cells {t : Ty} {a : An} {x : t.den} {cs : List Value} {O R : List Nat} (h : Rep w t a x cs O R) (ht : t.flat = true) (ha : a.plain = true) : ∀ v ∈ cs, ∀ p n c, v ≠ .slice p n c := by
  induction t generalizing a cs O R with
  | pair t u iht ihu =>
    simp only [Ty.flat, Bool.and_eq_true] at ht
    obtain ⟨c1, c2, O1, O2, R1, R2, rfl, rfl, rfl, h1, h2⟩ := h
    have hl : a.l.plain = true := by cases a <;> simp_all [An.l, An.plain]
    have hr : a.r.plain = true := by cases a <;> simp_all [An.r, An.plain]
    intro v hv
    rcases List.mem_append.1 hv with hv | hv
    · exact iht h1 ht.1 hl v hv
    · exact ihu h2 ht.2 hr v hv
  | int k => cases a <;> simp [An.plain] at ha <;> (obtain ⟨-, -, rfl, -⟩ := h; simp)
  | bool => cases a <;> simp [An.plain] at ha <;> (obtain ⟨-, -, rfl⟩ := h; simp)
  | str => cases a <;> simp [An.plain] at ha <;> (obtain ⟨-, -, rfl, -⟩ := h; simp)
  | sl e => simp [Ty.flat] at ht

/-- links behind a store into a slot's object -/
theorem links_store {w' : World} (h : Rel w env tmps Of Rf) {s : Nat} (hs : s < env.length) {flat : Bool} {v : V} (hoth : ∀ s', s' ≠ s → ∀ b ∈ Of s', w'.heap[b]? = w.heap[b]?)
    {D D' : Dat} {cs cs' : List Value} {bk : Option (Nat × Nat)} (ho : obj w (get env s).v (tv tmps s) = some (D, cs, bk)) (ho' : obj w' v (tv tmps s) = some (D', cs', bk))
    (H1 : flat = true → ∀ (off : Nat) (p : Option Addr) (n c : Nat), cs[off]? = some (.slice p n c) → cs'[off]? = some (.slice p n c))
    (H2 : flat = true → ∀ (o : Nat) (e : Ty) (el : TypeId) (ae : An) (xs : List e.den), sub D.t D.a D.x o 1 = some ⟨.sl e, .own el ae, xs⟩ → ∃ el' ae' xs', sub D'.t D'.a D'.x o 1 = some ⟨.sl e, .own el' ae', xs'⟩ ∧ List.length xs' = xs.length) :
    Links w env tmps w' (env.set s (bif flat then (get env s).cont v else (get env s).form v)) tmps := by
  have hg : ∀ j, get (env.set s (bif flat then (get env s).cont v else (get env s).form v)) j = if j = s then (bif flat then (get env s).cont v else (get env s).form v) else get env j := fun j => get_set _ _ _ _ hs
  have hnow : (bif flat then (get env s).cont v else (get env s).form v).now = (get env s).now + 1 := by cases flat <;> rfl
  have hver : (bif flat then (get env s).cont v else (get env s).form v).ver = (get env s).ver := by cases flat <;> rfl
  have hv : (bif flat then (get env s).cont v else (get env s).form v).v = v := by cases flat <;> rfl
  have hrev : (bif flat then (get env s).cont v else (get env s).form v).rev = (get env s).now + 1 := by cases flat <;> rfl
  refine ⟨fun l x hl => ?_, fun l cut x hl => ?_, fun s' t x hl => ?_⟩
  · by_cases e : l.s = s
    · have h1 := hl.1
      rw [e] at h1
      refine ⟨by rw [e, hg, if_pos rfl, hnow]; omega, fun hf => ?_⟩
      unfold freshP at hf
      rw [e, hg, if_pos rfl, hver, hrev] at hf
      have hrf : Nat.ble ((get env s).now + 1) l.t = false := by
        cases hb : Nat.ble ((get env s).now + 1) l.t with
        | false => rfl
        | true => have := Nat.le_of_ble_eq_true hb; omega
      rw [hrf] at hf
      simp only [Bool.or_false, Bool.and_eq_true, Bool.or_eq_true] at hf
      obtain ⟨hf1, hf2⟩ := hf
      rcases hf2 with hst | ⟨hcv, hone⟩
      · have hst' : l.st = [] := by simpa using hst
        have hfr : freshP env l = true := by unfold freshP; rw [e, hf1, hst]; rfl
        obtain ⟨cs1, b, k, hloc, hx⟩ := hl.2 hfr
        unfold locOf at hloc ⊢
        rw [e] at hloc ⊢
        rw [hg, if_pos rfl, hv, ho']
        rw [ho] at hloc
        simp only [hst', loc, Option.some.injEq, Prod.mk.injEq] at hloc ⊢
        obtain ⟨-, rfl⟩ := hloc
        exact ⟨cs', b, k, ⟨rfl, rfl⟩, hx⟩
      · cases flat with
        | false =>
          exfalso
          have := Nat.le_of_ble_eq_true hcv
          simp only [cond_false, Slot.form] at this
          omega
        | true =>
          have hcv' : Nat.ble (get env s).cver l.t = true := hcv
          have hfr : freshP env l = true := by unfold freshP; rw [e, hf1, hcv', hone]; simp
          obtain ⟨cs1, b, k, hloc, hx⟩ := hl.2 hfr
          unfold locOf at hloc ⊢
          rw [e] at hloc ⊢
          rw [hg, if_pos rfl, hv, ho']
          rw [ho] at hloc
          have hlen : l.st.length = 1 := by simpa using hone
          obtain ⟨⟨o, i⟩, hst⟩ := List.length_eq_one_iff.1 hlen
          rw [hst] at hloc ⊢
          simp only [loc] at hloc ⊢
          split at hloc
          · rename_i e1 el ae xs p n c hsub hcell
            obtain ⟨el', ae', xs', hsub', hlen'⟩ := H2 rfl o e1 el ae xs hsub
            have hcell' := H1 rfl o _ _ _ hcell
            rw [hsub', hcell']
            simp only
            split at hloc
            · rename_i hi
              rw [if_pos (by rw [hlen']; exact hi)]
              simp only [Option.some.injEq, Prod.mk.injEq] at hloc ⊢
              obtain ⟨-, rfl, rfl⟩ := hloc
              exact ⟨_, _, _, ⟨rfl, rfl, rfl⟩, hx⟩
            · cases hloc
          · cases hloc
    · refine ⟨by rw [hg, if_neg e]; exact hl.1, fun hf => ?_⟩
      have hge := hg l.s
      rw [if_neg e] at hge
      rw [freshP_congr hge] at hf
      obtain ⟨cs, b, k, hloc, hx⟩ := hl.2 hf
      exact ⟨cs, b, k, by rw [locOf_frame h hge rfl (hoth _ e)]; exact hloc, hx⟩
  · by_cases e : l.s = s
    · have h1 := hl.1
      rw [e] at h1
      refine ⟨by rw [e, hg, if_pos rfl, hnow]; omega, fun hf => ?_⟩
      unfold freshR at hf
      rw [e, hg, if_pos rfl, hver, hrev] at hf
      have hrf : Nat.ble ((get env s).now + 1) l.t = false := by
        cases hb : Nat.ble ((get env s).now + 1) l.t with
        | false => rfl
        | true => have := Nat.le_of_ble_eq_true hb; omega
      rw [hrf] at hf
      simp only [Bool.or_false, Bool.and_eq_true] at hf
      obtain ⟨hf1, hcv, hst⟩ := hf
      cases flat with
      | false =>
        exfalso
        have := Nat.le_of_ble_eq_true hcv
        simp only [cond_false, Slot.form] at this
        omega
      | true =>
        have hcv' : Nat.ble (get env s).cver l.t = true := hcv
        have hst' : l.st = [] := by simpa using hst
        have hfr : freshR env l = true := by unfold freshR; rw [e, hf1, hcv', hst]; rfl
        obtain ⟨cs1, bk1, hd, hloc, hcell, hck, hx⟩ := hl.2 hfr
        unfold locOf at hloc ⊢
        rw [e] at hloc ⊢
        rw [hg, if_pos rfl, hv, ho']
        rw [ho] at hloc
        simp only [hst', loc, Option.some.injEq, Prod.mk.injEq] at hloc ⊢
        obtain ⟨rfl, rfl⟩ := hloc
        have hsl : ∃ p n c, hd = .slice p n c := by
          cases cut with
          | none => exact hck
          | some c => obtain ⟨lo, n, z⟩ := c; obtain ⟨p, len, cap, h, -⟩ := hck; exact ⟨p, len, cap, h⟩
        obtain ⟨p, n, c, rfl⟩ := hsl
        exact ⟨cs', bk, _, ⟨rfl, rfl⟩, H1 rfl _ _ _ _ hcell, hck, hx⟩
    · refine ⟨by rw [hg, if_neg e]; exact hl.1, fun hf => ?_⟩
      have hge := hg l.s
      rw [if_neg e] at hge
      rw [freshR_congr hge] at hf
      obtain ⟨cs, bk, hd, hloc, hx⟩ := hl.2 hf
      exact ⟨cs, bk, hd, by rw [locOf_frame h hge rfl (hoth _ e)]; exact hloc, hx⟩
  · by_cases e : s' = s
    · subst e
      refine ⟨by rw [hg, if_pos rfl, hnow]; have := hl.1; omega, fun hf => ?_⟩
      rw [hg, if_pos rfl, hver] at hf
      exact hl.2 hf
    · unfold FnlOk
      rw [hg, if_neg e]
      exact hl

theorem nodup_swap {A B C B' : List Nat} (h : (A ++ B ++ C).Nodup) (hb : B'.Nodup) (hd : ∀ b ∈ B', b ∉ A ∧ b ∉ C) : (A ++ B' ++ C).Nodup := by
  rw [List.nodup_append] at h ⊢
  rw [List.nodup_append] at h ⊢
  refine ⟨⟨h.1.1, hb, fun a ha b hb' e => (hd b hb').1 (e ▸ ha)⟩, h.2.1, fun a ha b hb' e => ?_⟩
  rcases List.mem_append.1 ha with ha | ha
  · exact h.2.2 a (by simp [ha]) b hb' e
  · exact (hd a ha).2 (e ▸ hb')

theorem flat_slice {d : Dat} {e : Ty} {a : An} {xs : List e.den} (h : d = ⟨.sl e, a, xs⟩) : d.t.flat = false := by subst h; rfl

/-- WHAT A STORE DOES, behind what was moved out of other slots. -/
theorem stored_ok (h : Rel w env tmps Of Rf) {env1 : Env} {Of1 Rf1 : Nat → List Nat} {ws O1 R1 : List Nat} (k : Tk w tmps env Of Rf env1 Of1 Rf1 ws O1 R1) {l : Lk} {n : Nat} {old dd D : Dat}
    (hnot : l.s ∉ ws) {x : Value} (hx : PtrOk w env tmps l x) (hrd : rdP env l n = some old) (hD : (get env l.s).v.obj? = some D) {q : An × old.t.den} {cs : List Value} (hq : Rep w old.t q.1 q.2 cs O1 R1)
    (hput : putP D l.st (fun d => (upd d.t d.a d.x l.off n ⟨old.t, q.1, q.2⟩).map fun p => (⟨d.t, p.1, p.2⟩ : Dat)) = some dd) {v : V}
    (hv : (∃ t a y, (get env l.s).v = .box t a y ∧ v = .box dd.t dd.a dd.x) ∨ (∃ t a y, (get env l.s).v = .dat t a y ∧ v = .dat dd.t dd.a dd.x ∧ l.st ≠ [])) :
    ∃ b off C el Of' Rf', x = .pointer (some ⟨b, off, none⟩) ∧ w.heap[b]? = some (.cells C el (0, 0)) ∧ off + old.t.sz ≤ C.size ∧
      Stp w env tmps Of Rf (w.setRow b (C.toList.take off ++ cs ++ C.toList.drop (off + old.t.sz)).toArray) (env1.set l.s (bif old.t.flat && old.a.plain then (get env1 l.s).cont v else (get env1 l.s).form v)) tmps Of' Rf' (ws ++ [l.s]) := by
  have hout := k.out l.s hnot
  obtain ⟨b, kk, C, el, cs1, ocs, Oo, Ro, hxe, hb, hbO, hloc, hj, hocs, holen, hle, hn, horep, -, -⟩ := rdP_ok h hx hrd
  have hcsl : cs.length = old.t.sz := hq.len.1
  have hone := hq.len.2
  have hls : l.s < env.length := get_lt (by intro e; rw [e] at hD; simp [V.obj?] at hD)
  have hls1 : l.s < env1.length := by rw [k.len]; exact hls
  have hcl := Tk.clean h k
  -- the world behind the store
  generalize hC' : (C.toList.take (kk + l.off) ++ cs ++ C.toList.drop (kk + l.off + old.t.sz)).toArray = C'
  have hCl : C'.toList = C.toList.take (kk + l.off) ++ cs ++ C.toList.drop (kk + l.off + old.t.sz) := by rw [← hC']
  have hbw : (w.setRow b C').heap[b]? = some (.cells C' el (0, 0)) := setRow_heap w b C C' el (0, 0) hb
  have hother : ∀ b', b' ≠ b → (w.setRow b C').heap[b']? = w.heap[b']? := fun b' hne => setRow_other w b b' C' hne
  have hbO1 : b ∉ O1 := fun hh => by have := k.gone b hh l.s; rw [hout.2.1] at this; exact this hbO
  have hbR1 : b ∉ R1 := fun hh => by have := hcl.2.2 b hh l.s; rw [hout.2.1] at this; exact this hbO
  have hq' : Rep (w.setRow b C') old.t q.1 q.2 cs O1 R1 := hq.frame (fun b' hb' => hother b' fun e => hbO1 (e ▸ hb')) (fun b' hb' => hother b' fun e => hbR1 (e ▸ hb'))
  -- the object, the way, the place
  have hfr : freshP env l = true := by
    unfold rdP at hrd
    cases hf : freshP env l with
    | true => rfl
    | false => rw [hf] at hrd; simp at hrd
  obtain ⟨d1, hgp, hsub⟩ : ∃ d1, getP D l.st = some d1 ∧ sub d1.t d1.a d1.x l.off n = some old := by
    unfold rdP at hrd
    rw [hfr, hD] at hrd
    simp only [cond_true, Option.bind_some] at hrd
    cases hg : getP D l.st with
    | none => simp [hg] at hrd
    | some d1 => simp only [hg, Option.bind_some] at hrd; exact ⟨d1, rfl, hrd⟩
  obtain ⟨cs0, bk0, O0, pre, hob, hrep0, hO, hkind⟩ := h.content hD
  have hnd := h.nodup l.s
  rw [hO] at hnd
  have hndO : O0.Nodup := (List.nodup_append.1 hnd).2.1
  have hur : ∀ b ∈ O0, b ∉ Rf l.s := fun b hb => h.unread l.s l.s b (by rw [hO]; simp [hb])
  unfold locOf at hloc
  rw [hob] at hloc
  simp only at hloc
  obtain ⟨A0, A1, A2, B0, B1, B2, hOe, hRe, hd1, hnil, hcons⟩ := hrep0.path hndO hur hloc hgp
  obtain ⟨c0, c1, c2, P0, P1, P2, Q0, Q1, Q2, hcs1, hl0, hn', hA1, hB1, hold, hupd⟩ := hd1.focus hsub
  have hcl1 := hold.len.1
  -- what is behind the way, afterwards
  have hframe1 : ∀ b', b' ∈ P0 ∨ b' ∈ P2 ∨ b' ∈ Q0 ∨ b' ∈ Q2 → b' ∈ Of l.s ∨ b' ∈ Rf l.s := by
    intro b' hb'
    rw [hO, hOe, hRe, hA1, hB1]
    simp only [List.mem_append]
    grind
  have hbR : b ∉ Rf l.s := h.unread l.s l.s b hbO
  have hCsplit : ∀ (T S : List Value), C.toList = T ++ (c0 ++ c1 ++ c2) ++ S → T.length = kk → C'.toList = T ++ (c0 ++ cs ++ c2) ++ S := by
    intro T S hC hT
    have e1 : C.toList.take (kk + l.off) = T ++ c0 := by
      rw [hC, ← hT, ← hl0]
      simp only [List.append_assoc]
      rw [← List.append_assoc T c0]
      exact List.take_left' (by simp)
    have e2 : C.toList.drop (kk + l.off + old.t.sz) = c2 ++ S := by
      rw [hC, ← hT, ← hl0, ← hcl1]
      simp only [List.append_assoc]
      rw [show T ++ (c0 ++ (c1 ++ (c2 ++ S))) = (T ++ c0 ++ c1) ++ (c2 ++ S) by simp]
      exact List.drop_left' (by simp; omega)
    rw [hCl, e1, e2]
    simp
  have key : ∃ csT, dd.t = D.t ∧ Rep (w.setRow b C') dd.t dd.a dd.x csT (A0 ++ (P0 ++ O1 ++ P2) ++ A2) (B0 ++ (Q0 ++ R1 ++ Q2) ++ B2) ∧ obj (w.setRow b C') v (tv tmps l.s) = some (dd, csT, bk0) ∧
      (∀ env', SlotOk (w.setRow b C') env' tmps v (tv tmps l.s) (pre ++ (A0 ++ (P0 ++ O1 ++ P2) ++ A2)) (B0 ++ (Q0 ++ R1 ++ Q2) ++ B2)) ∧
      ((old.t.flat && old.a.plain) = true → ∀ (off : Nat) (p : Option Addr) (n c : Nat), cs0[off]? = some (.slice p n c) → csT[off]? = some (.slice p n c)) ∧
      ((old.t.flat && old.a.plain) = true → ∀ (o : Nat) (e : Ty) (el : TypeId) (ae : An) (xs : List e.den), sub D.t D.a D.x o 1 = some ⟨.sl e, .own el ae, xs⟩ → ∃ el' ae' xs', sub dd.t dd.a dd.x o 1 = some ⟨.sl e, .own el' ae', xs'⟩ ∧ List.length xs' = xs.length) := by
    by_cases hst : l.st = []
    · obtain ⟨rfl, hbk, rfl, rfl, rfl, rfl⟩ := hnil hst
      rw [hst] at hgp hput
      simp only [getP, Option.some.injEq] at hgp
      subst hgp
      simp only [putP, Option.map_eq_some_iff] at hput
      obtain ⟨p, hp, rfl⟩ := hput
      rcases hkind with ⟨rfl, -⟩ | ⟨b0, C0, el0, rfl, rfl, hb0, hc0, -, htv⟩
      · cases hbk
      · simp only [Option.some.injEq, Prod.mk.injEq] at hbk
        obtain ⟨rfl, rfl⟩ := hbk
        rw [hb] at hb0
        simp only [Option.some.injEq, Obj.cells.injEq] at hb0
        obtain ⟨rfl, rfl, -⟩ := hb0
        have hbO0 : b ∉ O0 := fun hh => (List.nodup_append.1 hnd).2.2 b (by simp) b hh rfl
        have hne : ∀ b', b' ∈ P0 ∨ b' ∈ P2 ∨ b' ∈ Q0 ∨ b' ∈ Q2 → b' ≠ b := by
          rintro b' hb' rfl
          rw [hOe, hA1] at hbO0
          rw [hRe, hB1] at hbR
          simp only [List.mem_append] at hbO0 hbR
          grind
        obtain ⟨p', hp', hrep'⟩ := hupd (w.setRow b C') q.1 q.2 cs O1 R1 (fun b' hb' => hother b' (hne b' hb')) hq'
        rw [hp] at hp'
        cases hp'
        have hC'l : C'.toList = c0 ++ cs ++ c2 := by
          have := hCsplit [] [] (by rw [← hc0, hcs1]; simp) rfl
          simpa using this
        have hvb : v = .box D.t p.1 p.2 := by
          rcases hv with ⟨t, a, y, -, hv⟩ | ⟨t, a, y, -, -, hne⟩
          · exact hv
          · exact absurd hst hne
        refine ⟨C'.toList, rfl, ?_, ?_, ?_, ?_, ?_⟩
        · rw [hC'l]; simpa using hrep'
        · rw [hvb, htv]
          simp only [obj]
          rw [cellsAt_all hbw (by rw [hC'l]; exact hrep'.len.1)]
        · intro env'
          rw [hvb, htv]
          exact ⟨b, C', el, _, rfl, hbw, by rw [hC'l]; simpa using hrep', by simp⟩
        · intro hf off pp nn cc hcell
          simp only [Bool.and_eq_true] at hf
          have hnosl := flat_cells hold hf.1 hf.2
          rw [hC'l]
          rw [hcs1] at hcell
          by_cases h1 : off < c0.length
          · rw [List.append_assoc, List.getElem?_append_left h1] at hcell ⊢
            exact hcell
          · rw [List.append_assoc, List.getElem?_append_right (by omega)] at hcell ⊢
            by_cases h2 : off - c0.length < c1.length
            · rw [List.getElem?_append_left h2] at hcell
              exact absurd rfl (hnosl _ (List.mem_of_getElem? hcell) pp nn cc)
            · rw [List.getElem?_append_right (by omega)] at hcell
              rw [List.getElem?_append_right (by omega), hcsl, ← hcl1]
              exact hcell
        · intro hf o e el' ae xs hs
          simp only [Bool.and_eq_true] at hf
          exact ⟨el', ae, xs, sub_upd_flat hsub hf.1 hp hs rfl, rfl⟩
    · obtain ⟨b2, k2, C2, el2, hbk, hbA, hb2, hcs2, hk2, hput2⟩ := hcons hst
      simp only [Option.some.injEq, Prod.mk.injEq] at hbk
      obtain ⟨rfl, rfl⟩ := hbk
      rw [hb] at hb2
      simp only [Option.some.injEq, Obj.cells.injEq] at hb2
      obtain ⟨rfl, rfl, -⟩ := hb2
      have hbO0 : b ∈ O0 := by rw [hOe]; simp only [List.mem_append]; grind
      have hbA1 : b ∉ A1 := by
        have := nodup_mid (hOe ▸ hndO)
        intro hh
        rcases hbA with hx | hx
        · exact this.2.1 b hh hx
        · exact this.2.2 b hh hx
      have hbpre : b ∉ pre := fun hh => (List.nodup_append.1 hnd).2.2 b hh b hbO0 rfl
      have hne : ∀ b', b' ∈ P0 ∨ b' ∈ P2 ∨ b' ∈ Q0 ∨ b' ∈ Q2 → b' ≠ b := by
        rintro b' hb' rfl
        rw [hA1] at hbA1
        rw [hRe, hB1] at hbR
        simp only [List.mem_append] at hbA1 hbR
        grind
      obtain ⟨p, hp, hrep'⟩ := hupd (w.setRow b C') q.1 q.2 cs O1 R1 (fun b' hb' => hother b' (hne b' hb')) hq'
      have hC'l : C'.toList = C.toList.take kk ++ (c0 ++ cs ++ c2) ++ C.toList.drop (kk + d1.t.sz) := by
        refine hCsplit _ _ ?_ ?_
        · rw [← hcs1, hcs2]
          rw [List.append_assoc]
          rw [show C.toList.drop (kk + d1.t.sz) = (C.toList.drop kk).drop d1.t.sz by rw [List.drop_drop]]
          rw [List.take_append_drop, List.take_append_drop]
        · have : kk ≤ C.size := by omega
          simp; omega
      obtain ⟨hdt, hrepT⟩ := hput2 (w.setRow b C') _ ⟨d1.t, p.1, p.2⟩ dd C' (c0 ++ cs ++ c2) (P0 ++ O1 ++ P2) (Q0 ++ R1 ++ Q2) (by simp only [hp, Option.map_some]) rfl hbw hC'l
        (fun b' hne' _ => hother b' hne') hrep' hput
      have hobj' : obj (w.setRow b C') v (tv tmps l.s) = some (dd, cs0, bk0) ∧ ∀ env', SlotOk (w.setRow b C') env' tmps v (tv tmps l.s) (pre ++ (A0 ++ (P0 ++ O1 ++ P2) ++ A2)) (B0 ++ (Q0 ++ R1 ++ Q2) ++ B2) := by
        rcases hkind with ⟨rfl, rfl, ⟨t0, a0, y0, hv0⟩, hpk⟩ | ⟨b0, C0, el0, rfl, rfl, hb0, hc0, ⟨t0, a0, y0, hv0⟩, htv⟩
        · have hvd : v = .dat dd.t dd.a dd.x := by
            rcases hv with ⟨t, a, y, hv1, -⟩ | ⟨t, a, y, -, hv2, -⟩
            · rw [hv0] at hv1; cases hv1
            · exact hv2
          have hpk' : Packed dd.t cs0 (tv tmps l.s) := by rw [hdt]; exact hpk
          have hun := hpk'.unpack hrepT
          refine ⟨?_, fun env' => ?_⟩
          · rw [hvd]
            cases hxv : tv tmps l.s <;> (simp only [obj]; rw [← hxv, hun])
          · rw [hvd]
            exact ⟨cs0, hpk', by simpa using hrepT⟩
        · have hvb : v = .box dd.t dd.a dd.x := by
            rcases hv with ⟨t, a, y, -, hv2⟩ | ⟨t, a, y, hv1, -⟩
            · exact hv2
            · rw [hv0] at hv1; cases hv1
          have hb0' : (w.setRow b C').heap[b0]? = some (.cells C0 el0 (0, 0)) := by
            rw [hother b0 (fun e => hbpre (by simp [e]))]; exact hb0
          refine ⟨?_, fun env' => ?_⟩
          · rw [hvb, htv]
            simp only [obj]
            rw [cellsAt_all hb0' (by rw [← hc0]; exact hrepT.len.1), hc0]
          · rw [hvb, htv]
            exact ⟨b0, C0, el0, _, rfl, hb0', by rw [← hc0]; exact hrepT, by simp⟩
      refine ⟨cs0, hdt, hrepT, hobj'.1, hobj'.2, fun _ _ _ _ _ hcell => hcell, ?_⟩
      intro hf o e el' ae xs hs
      cases hste : l.st with
      | nil => exact absurd hste hst
      | cons p1 st1 =>
        obtain ⟨o1, i1⟩ := p1
        rw [hste] at hput
        simp only [putP] at hput
        split at hput
        · rename_i e1 el1 ae1 xs1 hs1
          simp only [Option.bind_eq_some_iff] at hput
          obtain ⟨d', -, p2, -, hput⟩ := hput
          split at hput
          · rename_i hpa
            rw [Option.map_eq_some_iff] at hput
            obtain ⟨q2, hq2, rfl⟩ := hput
            have := sub_upd_one hs1 (by rfl) hq2 o
            simp only at this ⊢
            by_cases ho : o = o1
            · subst ho
              rw [hs1] at hs
              cases hs
              rw [if_pos rfl] at this
              exact ⟨_, _, _, this, by simp⟩
            · rw [if_neg ho, hs] at this
              exact ⟨_, _, _, this, rfl⟩
          · cases hput
        · cases hput
  obtain ⟨csT, hdt, hrepT, hobjT, hslotT, H1, H2⟩ := key
  have hge1 : get env1 l.s = get env l.s := hout.1
  have hoth1 : ∀ s', s' ≠ l.s → ∀ b' ∈ Of1 s', b' ≠ b := by
    rintro s' hs' b' hb' rfl
    exact k.rel.apart s' l.s b' hs' hb' (by rw [hout.2.1]; exact hbO)
  have hlk := links_store (w' := w.setRow b C') k.rel hls1 (flat := old.t.flat && old.a.plain) (v := v) (fun s' hs' b' hb' => hother b' (hoth1 s' hs' b' hb')) (by rw [hge1]; exact hob) hobjT H1 H2
  have hget : ∀ j, get (env1.set l.s (bif old.t.flat && old.a.plain then (get env1 l.s).cont v else (get env1 l.s).form v)) j = if j = l.s then (bif old.t.flat && old.a.plain then (get env1 l.s).cont v else (get env1 l.s).form v) else get env1 j := fun j => get_set _ _ _ _ hls1
  have hgv : (bif old.t.flat && old.a.plain then (get env1 l.s).cont v else (get env1 l.s).form v).v = v := by cases (old.t.flat && old.a.plain) <;> rfl
  have inO : ∀ b', b' ∈ pre ++ (A0 ++ (P0 ++ O1 ++ P2) ++ A2) → b' ∈ Of l.s ∨ b' ∈ O1 := by
    intro b' hb'
    rw [hO, hOe, hA1]
    simp only [List.mem_append] at hb' ⊢
    grind
  have inR : ∀ b', b' ∈ B0 ++ (Q0 ++ R1 ++ Q2) ++ B2 → b' ∈ Rf l.s ∨ b' ∈ R1 := by
    intro b' hb'
    rw [hRe, hB1]
    simp only [List.mem_append] at hb' ⊢
    grind
  refine ⟨b, kk + l.off, C, el, fset Of1 l.s (pre ++ (A0 ++ (P0 ++ O1 ++ P2) ++ A2)), fset Rf1 l.s (B0 ++ (Q0 ++ R1 ++ Q2) ++ B2), hxe, hb, by omega, ?_⟩
  rw [hC']
  refine ⟨?_, rfl, rfl, rfl, by simp [World.setRow], ?_, ?_, ?_, k.links.trans hlk, ?_, by simp [k.len]⟩
  · refine k.rel.step (fun j => j = l.s) (by simpa using k.rel.size) (fun j hj => by rw [hget, if_neg hj]) (fun j hj => rfl) (fun j hj => fset_ne _ _ hj) (fun j hj => fset_ne _ _ hj)
      (fun j hj b' hb' => ?_) (fun l' x' _ hx' => hlk.ptr l' x' hx') (fun l' c x' _ hx' => hlk.ref l' c x' hx') (fun j t x' _ hx' => hlk.fnl j t x' hx') ?_ ?_ ?_ ?_ ?_
    · refine hother b' ?_
      rcases hb' with hb' | hb'
      · exact hoth1 j hj b' hb'
      · rintro rfl
        exact k.rel.unread l.s j b' (by rw [hout.2.1]; exact hbO) hb'
    · rintro j rfl
      rw [hget, if_pos rfl, fset_same, fset_same, hgv]
      exact hslotT _
    · rintro j rfl
      rw [fset_same]
      have e1 : pre ++ (A0 ++ (P0 ++ O1 ++ P2) ++ A2) = (pre ++ A0 ++ P0) ++ O1 ++ (P2 ++ A2) := by simp
      rw [e1]
      refine nodup_swap (B := P1) ?_ k.nd ?_
      · have : pre ++ A0 ++ P0 ++ P1 ++ (P2 ++ A2) = pre ++ O0 := by rw [hOe, hA1]; simp
        rw [this]; exact hnd
      · intro b' hb'
        have := k.gone b' hb' l.s
        rw [hout.2.1, hO, hOe, hA1] at this
        simp only [List.mem_append] at this ⊢
        grind
    · rintro j j' b' rfl hne hb' hb''
      rw [fset_same] at hb'
      rw [fset_ne _ _ (Ne.symm hne)] at hb''
      rcases inO b' hb' with hx | hx
      · exact k.rel.apart l.s j' b' hne (by rw [hout.2.1]; exact hx) hb''
      · exact k.gone b' hx j' hb''
    · rintro j j' b' rfl hb' hb''
      rw [fset_same] at hb'
      by_cases hjj : j' = l.s
      · subst hjj
        rw [fset_same] at hb''
        rcases inO b' hb' with hx | hx <;> rcases inR b' hb'' with hy | hy
        · exact h.unread l.s l.s b' hx hy
        · exact hcl.2.2 b' hy l.s (by rw [hout.2.1]; exact hx)
        · exact hcl.1 b' hx l.s (by rw [hout.2.2]; exact hy)
        · exact hcl.2.1 b' hx hy
      · rw [fset_ne _ _ hjj] at hb''
        rcases inO b' hb' with hx | hx
        · exact k.rel.unread l.s j' b' (by rw [hout.2.1]; exact hx) hb''
        · exact hcl.1 b' hx j' hb''
    · rintro j j' b' rfl hb' hb''
      rw [fset_same] at hb''
      by_cases hjj : j = l.s
      · subst hjj
        rw [fset_same] at hb'
        rcases inO b' hb' with hx | hx <;> rcases inR b' hb'' with hy | hy
        · exact h.unread l.s l.s b' hx hy
        · exact hcl.2.2 b' hy l.s (by rw [hout.2.1]; exact hx)
        · exact hcl.1 b' hx l.s (by rw [hout.2.2]; exact hy)
        · exact hcl.2.1 b' hx hy
      · rw [fset_ne _ _ hjj] at hb'
        rcases inR b' hb'' with hx | hx
        · exact k.rel.unread j l.s b' hb' (by rw [hout.2.2]; exact hx)
        · exact hcl.2.2 b' hx j hb'
  · intro b' hb' hno
    exact hother b' fun e => hno l.s (e ▸ hbO)
  · intro s b' hb'
    by_cases hs : s = l.s
    · subst hs
      rw [fset_same] at hb'
      rcases inO b' hb' with hx | hx
      · exact .inl ⟨l.s, hx⟩
      · exact .inl (k.fromO b' hx)
    · rw [fset_ne _ _ hs] at hb'
      exact .inl ⟨s, k.subO s b' hb'⟩
  · intro s b' hb'
    by_cases hs : s = l.s
    · subst hs
      rw [fset_same] at hb'
      rcases inR b' hb' with hx | hx
      · exact .inl ⟨l.s, .inr hx⟩
      · obtain ⟨s', hs'⟩ := k.fromR b' hx; exact .inl ⟨s', .inr hs'⟩
    · rw [fset_ne _ _ hs] at hb'
      exact .inl ⟨s, .inr (k.subR s b' hb')⟩
  · intro s hs
    simp at hs
    have := k.out s hs.1
    exact ⟨by rw [hget, if_neg hs.2]; exact this.1, rfl, by rw [fset_ne _ _ hs.2]; exact this.2.1, by rw [fset_ne _ _ hs.2]; exact this.2.2⟩

theorem storeAct_ok {T : Tab} (hT : TabOk P T) (h : Rel w env tmps Of Rf) (hod : o.dst = none) {t : TypeId} {a x : Operand} (ho : o.op = .store t a x) :
    OpOk P w env tmps Of Rf o (storeAct T env t (opnd env a) (opnd env x)) := by
  obtain ⟨Ra, hsa, hRa⟩ := opnd_ok h a
  obtain ⟨Rx, hsx, hRx⟩ := opnd_ok h x
  unfold storeAct
  split
  case h_2 => exact OpOk.bad
  rename_i ti l hti hpa
  rw [hpa] at hsa
  split
  case h_2 => exact OpOk.bad
  rename_i old hrd
  split
  case h_2 => exact OpOk.bad
  rename_i q hq
  cases hnot : q.ws.contains l.s with
  | true => exact OpOk.bad
  | false =>
    simp only [cond_false]
    have hnot' : l.s ∉ q.ws := by simpa using hnot
    obtain ⟨cs, O1, R1, Of1, Rf1, hk, hrep, hk1⟩ := takeV_ok h hsx hRx hq
    obtain ⟨hcells, hcsz⟩ := hk.val_size hrep
    obtain ⟨i, z, hi, hsz, -⟩ := (hT t ti hti).1.info
    obtain ⟨-, -, -, -, -, -, -, -, -, -, -, -, -, -, -, -, hn, -⟩ := rdP_ok h hsa.2.2 hrd
    have fin : ∀ {b off : Nat} {C : Array Value} {el : TypeId}, Go.Act.eval ⟨tmps, []⟩ a = .pointer (some ⟨b, off, none⟩) → w.heap[b]? = some (.cells C el (0, 0)) → off + old.t.sz ≤ C.size →
        (execOp (Go.Act.eval ⟨tmps, []⟩) o).run P w = .ok .skip (w.setRow b (C.toList.take off ++ cs ++ C.toList.drop (off + old.t.sz)).toArray) := by
      intro b off C el hx hb hle
      have hst := run_storeCells_at (P := P) b off el cs 0 C w hb (by rw [hrep.len.1]; simpa using hle) hrep.len.2
      simp only [Nat.add_zero, hrep.len.1] at hst
      have hs2 : (sizeOf t).run P w = .ok old.t.sz w := by simp [sizeOf, typeInfo, hi, hsz, hn]
      simp [execOp, ho, hx, Instr.storeAt, Instr.sureAddr, storeVar, hs2, hcsz, hcells, hst]
    split
    · rename_i t0 a0 y0 hv0
      split
      · rename_i dd hput
        intro pre' hyp' env' ws' he hp'
        simp only [Act.ok.injEq] at he
        obtain ⟨rfl, rfl, rfl, rfl⟩ := he
        obtain ⟨b, off, C, el, Of', Rf', h1, h2, h3, h4⟩ := stored_ok h hk1 hnot' hsa.2.2 hrd (D := ⟨t0, a0, y0⟩) (by rw [hv0]; rfl) (q := (q.a, q.x)) hrep hput (v := .box dd.t dd.a dd.x) (.inl ⟨t0, a0, y0, hv0, rfl⟩)
        refine ⟨by simp, .skip, _, tmps, Of', Rf', fin h1 h2 h3, by rw [hod]; exact ⟨rfl, rfl⟩, ?_⟩
        have e : ∀ (c : Bool) (A : Slot) (v : V), (bif c then A.cont else A.form) v = bif c then A.cont v else A.form v := by intro c A v; cases c <;> rfl
        rw [e]; exact h4
      · exact OpOk.bad
    · rename_i t0 a0 y0 hv0
      split
      · rename_i dd hput
        cases hst : l.st.isEmpty with
        | true => exact OpOk.bad
        | false =>
          simp only [cond_false]
          intro pre' hyp' env' ws' he hp'
          simp only [Act.ok.injEq] at he
          obtain ⟨rfl, rfl, rfl, rfl⟩ := he
          obtain ⟨b, off, C, el, Of', Rf', h1, h2, h3, h4⟩ := stored_ok h hk1 hnot' hsa.2.2 hrd (D := ⟨t0, a0, y0⟩) (by rw [hv0]; rfl) (q := (q.a, q.x)) hrep hput (v := .dat dd.t dd.a dd.x) (.inr ⟨t0, a0, y0, hv0, rfl, by intro e; rw [e] at hst; simp at hst⟩)
          refine ⟨by simp, .skip, _, tmps, Of', Rf', fin h1 h2 h3, by rw [hod]; exact ⟨rfl, rfl⟩, ?_⟩
          have e : ∀ (c : Bool) (A : Slot) (v : V), (bif c then A.cont else A.form) v = bif c then A.cont v else A.form v := by intro c A v; cases c <;> rfl
          rw [e]; exact h4
      · exact OpOk.bad
    · exact OpOk.bad

end
end Go.Vm

/- The slots behind a call of the evaluator Vm. Own work; lemmas. No condition. -/
import Derived.Test.YthnkkchlgepdaaaVmZ
namespace Go.Vm
open Go.RowKit
set_option linter.unusedVariables false

section
variable {P : Program} {w : World} {env : Env} {tmps : Array Value} {Of Rf : Nat → List Nat} {o : Oper} {d : Nat}

/-- a slot that gets something back holds what it held in kind -/
def KindOk (env : Env) : Back → Prop
  | .box s _ _ => ∃ t a x, (get env s).v = .box t a x
  | .row s _ _ _ => ∃ t a x, (get env s).v = .dat t a x
  | .clo s _ _ => ∃ f ds, (get env s).v = .fnv f ds

theorem capBoxes_kinds : ∀ (cs : List (Ty × An)) (ls : List Lk) {q : List (Σ t : Ty, t.den) × List Back}, capBoxes env cs ls = some q → ∀ b ∈ q.2, KindOk env b := by
  intro cs
  induction cs with
  | nil =>
    intro ls q hq
    cases ls with
    | cons l ls => simp [capBoxes] at hq
    | nil => simp [capBoxes] at hq; subst hq; simp
  | cons c cs ih =>
    obtain ⟨t, a⟩ := c
    intro ls q hq
    cases ls with
    | nil => simp [capBoxes] at hq
    | cons l ls =>
      simp only [capBoxes] at hq
      cases hc : freshP env l && l.st.isEmpty && (l.off == 0) with
      | false => simp [hc] at hq
      | true =>
        simp only [hc, cond_true] at hq
        split at hq
        · rename_i u b x hv
          simp only [Option.bind_eq_some_iff] at hq
          obtain ⟨p, hp, hq⟩ := hq
          cases hco : p.1.coe a with
          | false => simp [hco] at hq
          | true =>
            simp only [hco, cond_true, Option.map_eq_some_iff] at hq
            obtain ⟨q', hq', rfl⟩ := hq
            intro b' hb'
            simp at hb'
            rcases hb' with rfl | hb'
            · exact ⟨u, b, x, hv⟩
            · exact ih ls hq' b' hb'
        · cases hq

theorem passOne_kinds {e0 : Env} {pr : Par} {v : V} {p : Pass} (hp : passOne e0 env pr v = some p) : ∀ b ∈ p.back, KindOk e0 b := by
  unfold passOne at hp
  split at hp
  · rename_i t a
    have hb : p.back = [] := by
      cases hpl : a.plain with
      | true =>
        simp only [hpl, cond_true, Option.map_eq_some_iff] at hp
        obtain ⟨q, hq, rfl⟩ := hp; rfl
      | false =>
        simp only [hpl, cond_false, Option.bind_eq_some_iff] at hp
        obtain ⟨q, hq, hp⟩ := hp
        cases hc : q.a.coe a with
        | false => simp [hc] at hp
        | true => simp only [hc, cond_true, Option.some.injEq] at hp; subst hp; rfl
    rw [hb]; simp
  · split at hp
    · simp only [Option.map_eq_some_iff] at hp
      obtain ⟨q, hq, rfl⟩ := hp
      exact capBoxes_kinds _ _ hq
    · cases hp
  · rename_i e el a
    split at hp
    · rename_i l
      cases hc : freshR e0 l && l.st.isEmpty && (l.off == 0) with
      | false => simp [hc] at hp
      | true =>
        simp only [hc, cond_true] at hp
        split at hp
        · rename_i u f b xs hv
          simp only [Option.bind_eq_some_iff] at hp
          obtain ⟨q, hq, hp⟩ := hp
          cases hco : q.1.coe (.own el a) with
          | false => simp [hco] at hp
          | true =>
            simp only [hco, cond_true, Option.some.injEq] at hp
            subst hp
            intro b' hb'
            simp at hb'
            subst hb'
            exact ⟨_, _, _, hv⟩
        · cases hp
    · cases hp
  · rename_i f caps
    split at hp
    · rename_i g ls
      cases hg : (g == f) with
      | false => simp [hg] at hp
      | true =>
        simp only [hg, cond_true, Option.map_eq_some_iff] at hp
        obtain ⟨q, hq, rfl⟩ := hp
        exact capBoxes_kinds _ _ hq
    · rename_i s t
      cases hver : Nat.ble (get e0 s).ver t with
      | false => simp [hver] at hp
      | true =>
        simp only [hver, cond_true] at hp
        split at hp
        · rename_i g ds hv
          cases hg : (g == f) with
          | false => simp [hg] at hp
          | true =>
            simp only [hg, cond_true, Option.map_eq_some_iff] at hp
            obtain ⟨q, hq, rfl⟩ := hp
            intro b' hb'
            simp at hb'
            subst hb'
            exact ⟨_, _, hv⟩
        · cases hp
    · cases hp

theorem passAll_kinds {e0 : Env} : ∀ (pars : List Par) (args : List V) {env : Env} {p : Pass}, passAll e0 env pars args = some p → ∀ b ∈ p.back, KindOk e0 b := by
  intro pars
  induction pars with
  | nil =>
    intro args env p hp
    cases args with
    | cons a as => simp [passAll] at hp
    | nil => simp [passAll] at hp; subst hp; simp
  | cons pr pars ih =>
    intro args env p hp
    cases args with
    | nil => simp [passAll] at hp
    | cons v args =>
      simp only [passAll, Option.bind_eq_some_iff, Option.map_eq_some_iff] at hp
      obtain ⟨a, ha, b, hb, rfl⟩ := hp
      intro b' hb'
      simp at hb'
      rcases hb' with hb' | hb'
      · exact passOne_kinds ha b' hb'
      · exact ih args hb b' hb'

/-- what comes back, slot by slot -/
def BackRep (w : World) (tmps : Array Value) : List Back → List (Σ t : Ty, t.den) → List Nat → List Nat → Prop
  | [], ds, O, R => ds = [] ∧ O = [] ∧ R = []
  | .box s t a :: bs, ds, O, R => ∃ (x : t.den) (d2 : List (Σ t : Ty, t.den)) (O1 O2 R1 R2 : List Nat), ds = ⟨t, x⟩ :: d2 ∧ O = O1 ++ O2 ∧ R = R1 ++ R2 ∧ RepBox w ⟨t, a, x⟩ [tv tmps s] O1 R1 ∧ BackRep w tmps bs d2 O2 R2
  | .row s e el a :: bs, ds, O, R => ∃ (x : List e.den) (d2 : List (Σ t : Ty, t.den)) (O1 O2 R1 R2 : List Nat), ds = ⟨.sl e, x⟩ :: d2 ∧ O = O1 ++ O2 ∧ R = R1 ++ R2 ∧ Rep w (.sl e) (.own el a) x [tv tmps s] O1 R1 ∧ BackRep w tmps bs d2 O2 R2
  | .clo s f caps :: bs, ds, O, R => ∃ (vs : List Value) (d1 d2 : List (Σ t : Ty, t.den)) (O1 O2 R1 R2 : List Nat), ds = d1 ++ d2 ∧ O = O1 ++ O2 ∧ R = R1 ++ R2 ∧ tv tmps s = .func (.func f) #[] vs.toArray ∧
      d1.map (·.1) = caps.map (·.1) ∧ RepL (RepBox w) (toDats caps d1) vs O1 R1 ∧ BackRep w tmps bs d2 O2 R2

theorem backRep_boxes : ∀ (ss : List Nat) (caps : List (Ty × An)) (d1 : List (Σ t : Ty, t.den)) {bs : List Back} {d2 : List (Σ t : Ty, t.den)} {O1 O2 R1 R2 : List Nat}, ss.length = caps.length → d1.map (·.1) = caps.map (·.1) →
    RepL (RepBox w) (toDats caps d1) (ss.map (tv tmps)) O1 R1 → BackRep w tmps bs d2 O2 R2 → BackRep w tmps ((ss.zip caps).map (fun q => Back.box q.1 q.2.1 q.2.2) ++ bs) (d1 ++ d2) (O1 ++ O2) (R1 ++ R2)
  | [], caps, d1, bs, d2, O1, O2, R1, R2, hl, hd, hr, hb => by
    have hc : caps = [] := List.eq_nil_of_length_eq_zero (by simpa using hl.symm)
    subst hc
    have hd' : d1 = [] := by simpa using hd
    subst hd'
    obtain ⟨-, rfl, rfl⟩ := hr
    simpa using hb
  | s :: ss, [], d1, bs, d2, O1, O2, R1, R2, hl, hd, hr, hb => by simp at hl
  | s :: ss, (t, a) :: caps, [], bs, d2, O1, O2, R1, R2, hl, hd, hr, hb => by simp at hd
  | s :: ss, (t, a) :: caps, ⟨u, x⟩ :: d1, bs, d2, O1, O2, R1, R2, hl, hd, hr, hb => by
    simp only [List.map_cons, List.cons.injEq] at hd
    obtain ⟨rfl, hd⟩ := hd
    obtain ⟨c1, c2, Oa, Ob, Ra, Rb, hc, rfl, rfl, h1, h2⟩ := hr
    have hc1 : ∃ v, c1 = [v] := by obtain ⟨b, C, el, O', rfl, -⟩ := h1; exact ⟨_, rfl⟩
    obtain ⟨v, rfl⟩ := hc1
    simp only [List.map_cons, List.singleton_append, List.cons.injEq] at hc
    obtain ⟨rfl, rfl⟩ := hc
    have ih := backRep_boxes ss caps d1 (by simpa using hl) hd h2 hb
    exact ⟨x, d1 ++ d2, Oa, Ob ++ O2, Ra, Rb ++ R2, rfl, by simp, by simp, h1, ih⟩

theorem backRep_of : ∀ (ps : List Par) (bs : List Back) (vs : List Value) {ds : List (Σ t : Ty, t.den)} {O R : List Nat}, BacksOk tmps ps bs vs → OutsRep w ps ds vs O R → BackRep w tmps bs ds O R := by
  intro ps
  induction ps with
  | nil =>
    intro bs vs ds O R hb ho
    obtain ⟨rfl, rfl⟩ := hb
    obtain ⟨rfl, -, rfl, rfl⟩ := ho
    exact ⟨rfl, rfl, rfl⟩
  | cons p ps ih =>
    intro bs vs ds O R hb ho
    obtain ⟨d1, d2, v, vs', O1, O2, R1, R2, rfl, rfl, rfl, rfl, h1, h2⟩ := ho
    cases p with
    | val t a =>
      obtain ⟨v', vs'', he, hb⟩ := hb
      simp only [List.cons.injEq] at he
      obtain ⟨rfl, rfl⟩ := he
      obtain ⟨rfl, rfl, rfl⟩ := h1
      simpa using ih bs vs' hb h2
    | io t a =>
      obtain ⟨s, bs', vs'', rfl, he, hb⟩ := hb
      simp only [List.cons.injEq] at he
      obtain ⟨rfl, rfl⟩ := he
      obtain ⟨x, rfl, hx⟩ := h1
      exact ⟨x, d2, O1, O2, R1, R2, rfl, rfl, rfl, hx, ih bs' vs' hb h2⟩
    | iol e el a =>
      obtain ⟨s, bs', vs'', rfl, he, hb⟩ := hb
      simp only [List.cons.injEq] at he
      obtain ⟨rfl, rfl⟩ := he
      obtain ⟨x, rfl, hx⟩ := h1
      exact ⟨x, d2, O1, O2, R1, R2, rfl, rfl, rfl, hx, ih bs' vs' hb h2⟩
    | fn f caps =>
      obtain ⟨v', vs'', b1, bs', rfl, he, hb, hor⟩ := hb
      simp only [List.cons.injEq] at he
      obtain ⟨rfl, rfl⟩ := he
      obtain ⟨xs, hv, hd, hr⟩ := h1
      have ih' := ih bs' vs' hb h2
      rcases hor with ⟨s, rfl, hs⟩ | ⟨ss, hl, rfl, hs⟩
      · exact ⟨xs, d1, d2, O1, O2, R1, R2, rfl, rfl, rfl, by rw [← hs, hv], hd, hr, ih'⟩
      · rw [hv] at hs
        simp only [Value.func.injEq, true_and] at hs
        have hxs : xs = ss.map (tv tmps) := by simpa using hs
        subst hxs
        exact backRep_boxes ss caps d1 hl hd hr ih'

end
end Go.Vm

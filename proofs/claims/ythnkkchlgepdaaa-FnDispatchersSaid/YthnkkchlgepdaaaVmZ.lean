/- What comes back from a call of the evaluator Vm. Own work; lemmas. No condition. -/
import Derived.Test.YthnkkchlgepdaaaVmY
namespace Go.Vm
open Go.RowKit
set_option linter.unusedVariables false

section
variable {P : Program} {w : World} {env : Env} {tmps : Array Value} {Of Rf : Nat → List Nat} {o : Oper} {d : Nat}

theorem unt_tie : ∀ (ts : List Ty) (ds : List (Σ t : Ty, t.den)) (x : (tysOf ts).den), tie ts ds = some x → ds.length = ts.length → unt ts x = ds
  | [], ds, x, h, hl => by
    have : ds = [] := List.eq_nil_of_length_eq_zero hl
    subst this; rfl
  | t :: ts, [], x, h, hl => by simp [tie] at h
  | t :: ts, d :: ds, x, h, hl => by
    obtain ⟨u, y⟩ := d
    simp only [tie] at h
    split at h
    · rename_i e
      have e' : u = t := e
      subst e'
      cases hz : tie ts ds with
      | none => rw [hz] at h; cases h
      | some z =>
        rw [hz] at h
        have hx : x = (y, z) := (Option.some.inj h).symm
        subst hx
        show (⟨u, y⟩ : Σ t : Ty, t.den) :: unt ts z = _
        rw [unt_tie ts ds z hz (by simpa using hl)]
    · cases h

/-- a function that is entered -/
def FnOk (P : Program) (g : FuncId) : Prop := ∃ fn, P.funcs[g]? = some fn ∧ fn.body.isNone = false ∧ (fn.name == "runtime.NumGoroutine") = false

theorem run_enter {g : FuncId} (hg : FnOk P g) {f : Operand} {xs : Array Operand} {ts : Array TypeId} (ho : o.op = .call ⟨.value f, xs, ts⟩) {cs : Array Value} (hf : Go.Act.eval ⟨tmps, []⟩ f = .func (.func g) #[] cs) :
    (execOp (Go.Act.eval ⟨tmps, []⟩) o).run P w = .ok (.enter g (xs.map (Go.Act.eval ⟨tmps, []⟩) ++ cs)) w := by
  obtain ⟨fn, h1, h2, h3⟩ := hg
  have h2' : ¬ fn.body = none := by intro e; rw [e] at h2; simp at h2
  have h3' : ¬ fn.name = "runtime.NumGoroutine" := by simpa using h3
  simp [execOp, ho, resolve, hf, Deferred.ofValue, invoke, callFunc, h1, h2', h3']

/-- what comes back, and to which slots -/
def BacksOk (tmps : Array Value) : List Par → List Back → List Value → Prop
  | [], bs, vs => bs = [] ∧ vs = []
  | .val _ _ :: ps, bs, vs => ∃ v vs', vs = v :: vs' ∧ BacksOk tmps ps bs vs'
  | .io t a :: ps, bs, vs => ∃ s bs' vs', bs = .box s t a :: bs' ∧ vs = tv tmps s :: vs' ∧ BacksOk tmps ps bs' vs'
  | .iol e el a :: ps, bs, vs => ∃ s bs' vs', bs = .row s e el a :: bs' ∧ vs = tv tmps s :: vs' ∧ BacksOk tmps ps bs' vs'
  | .fn f caps :: ps, bs, vs => ∃ v vs' b1 bs', bs = b1 ++ bs' ∧ vs = v :: vs' ∧ BacksOk tmps ps bs' vs' ∧
      ((∃ s, b1 = [.clo s f caps] ∧ v = tv tmps s) ∨ ∃ ss : List Nat, ss.length = caps.length ∧ b1 = (ss.zip caps).map (fun q => .box q.1 q.2.1 q.2.2) ∧ v = .func (.func f) #[] (ss.map (tv tmps)).toArray)

theorem capBoxes_backs (h : Rel w env tmps Of Rf) : ∀ (cs : List (Ty × An)) (ls : List Lk) (vs : List Value) {q : List (Σ t : Ty, t.den) × List Back}, capBoxes env cs ls = some q →
    (∀ (j : Nat) (l : Lk), ls[j]? = some l → ∃ v, vs[j]? = some v ∧ PtrOk w env tmps l v) → vs.length = ls.length →
    ∃ ss : List Nat, ss.length = cs.length ∧ q.2 = (ss.zip cs).map (fun q => Back.box q.1 q.2.1 q.2.2) ∧ vs = ss.map (tv tmps) := by
  intro cs
  induction cs with
  | nil =>
    intro ls vs q hq hl hn
    cases ls with
    | cons l ls => simp [capBoxes] at hq
    | nil =>
      simp [capBoxes] at hq
      subst hq
      have : vs = [] := List.eq_nil_of_length_eq_zero hn
      subst this
      exact ⟨[], rfl, rfl, rfl⟩
  | cons c cs ih =>
    obtain ⟨t, a⟩ := c
    intro ls vs q hq hl hn
    cases ls with
    | nil => simp [capBoxes] at hq
    | cons l ls =>
      cases vs with
      | nil => simp at hn
      | cons v vs =>
        simp only [capBoxes] at hq
        cases hc : freshP env l && l.st.isEmpty && (l.off == 0) with
        | false => simp [hc] at hq
        | true =>
          simp only [hc, cond_true] at hq
          simp only [Bool.and_eq_true, beq_iff_eq] at hc
          split at hq
          · rename_i u b x hv
            simp only [Option.bind_eq_some_iff] at hq
            obtain ⟨p, hp, hq⟩ := hq
            cases hco : p.1.coe a with
            | false => simp [hco] at hq
            | true =>
              simp only [hco, cond_true, Option.map_eq_some_iff] at hq
              obtain ⟨q', hq', rfl⟩ := hq
              obtain ⟨ss, h1, h2, h3⟩ := ih ls vs hq' (fun j l' hj => by simpa using hl (j + 1) l' (by simpa using hj)) (by simpa using hn)
              have hs := h.slot l.s
              rw [hv] at hs
              obtain ⟨v', hv', hpo⟩ := hl 0 l (by simp)
              simp at hv'
              subst hv'
              have hvx : v = tv tmps l.s := by
                obtain ⟨cs1, b1, k1, hloc, hx⟩ := hpo.2 hc.1.1
                obtain ⟨g, C, el, O1, hg, hgh, hr, -⟩ := hs
                simp at hg
                unfold locOf at hloc
                rw [hv, hg] at hloc
                have hst : l.st = [] := by simpa using hc.1.2
                simp only [obj, hst, loc, Option.some.injEq, Prod.mk.injEq] at hloc
                obtain ⟨-, rfl, rfl⟩ := hloc
                rw [hx, hg, hc.2]
              exact ⟨l.s :: ss, by simp [h1], by simp [h2], by simp [hvx, h3]⟩
          · cases hq

theorem passOne_backs {e0 : Env} {Of0 Rf0 : Nat → List Nat} (h : Rel w e0 tmps Of0 Rf0) {pr : Par} {v : V} {x : Value} {R' : List Nat}
    (hs : SlotOk w e0 tmps v x [] R') {p : Pass} (hp : passOne e0 env pr v = some p) {ps : List Par} {bs : List Back} {vs : List Value} (hr : BacksOk tmps ps bs vs) : BacksOk tmps (pr :: ps) (p.back ++ bs) (x :: vs) := by
  unfold passOne at hp
  split at hp
  · rename_i t a
    have hb : p.back = [] := by
      cases hpl : a.plain with
      | true =>
        simp only [hpl, cond_true, Option.map_eq_some_iff] at hp
        obtain ⟨q, hq, rfl⟩ := hp; rfl
      | false =>
        simp only [hpl, cond_false, Option.bind_eq_some_iff] at hp
        obtain ⟨q, hq, hp⟩ := hp
        cases hc : q.a.coe a with
        | false => simp [hc] at hp
        | true => simp only [hc, cond_true, Option.some.injEq] at hp; subst hp; rfl
    rw [hb]
    exact ⟨x, vs, rfl, hr⟩
  · rename_i t a
    split at hp
    · rename_i l
      simp only [Option.map_eq_some_iff] at hp
      obtain ⟨q, hq, rfl⟩ := hp
      obtain ⟨ss, h1, h2, h3⟩ := capBoxes_backs h [(t, a)] [l] [x] hq (by intro j l' hj; cases j with | zero => simp at hj; subst hj; exact ⟨x, by simp, hs.2.2⟩ | succ j => simp at hj) rfl
      match ss, h1 with
      | [s], _ =>
        simp at h3
        exact ⟨s, bs, vs, by simp [h2], by rw [h3], hr⟩
    · cases hp
  · rename_i e el a
    split at hp
    · rename_i l
      cases hc : freshR e0 l && l.st.isEmpty && (l.off == 0) with
      | false => simp [hc] at hp
      | true =>
        simp only [hc, cond_true] at hp
        simp only [Bool.and_eq_true, beq_iff_eq] at hc
        split at hp
        · rename_i u f b xs hv
          simp only [Option.bind_eq_some_iff] at hp
          obtain ⟨q, hq, hp⟩ := hp
          cases hco : q.1.coe (.own el a) with
          | false => simp [hco] at hp
          | true =>
            simp only [hco, cond_true, Option.some.injEq] at hp
            subst hp
            have hsl := h.slot l.s
            rw [hv] at hsl
            obtain ⟨cs, hk, hr'⟩ := hsl
            have hcs : cs = [tv tmps l.s] := hk
            subst hcs
            have hxv : x = tv tmps l.s := by
              obtain ⟨cs1, bk, hd, hloc, hcell, -, hx⟩ := hs.2.2.2 hc.1.1
              unfold locOf at hloc
              have hst : l.st = [] := by simpa using hc.1.2
              have hob : obj w (get e0 l.s).v (tv tmps l.s) = some (⟨.sl u, .own f b, xs⟩, [tv tmps l.s], none) := by
                rw [hv]
                have hun : unpack (tv tmps l.s) = [tv tmps l.s] := Packed.unpack (t := .sl u) rfl hr'
                cases hxx : tv tmps l.s <;> (simp only [obj]; rw [← hxx, hun])
              rw [hob] at hloc
              simp only [hst, loc, Option.some.injEq, Prod.mk.injEq] at hloc
              obtain ⟨rfl, -⟩ := hloc
              rw [hc.2] at hcell
              simp at hcell
              rw [hx, ← hcell]; rfl
            exact ⟨l.s, bs, vs, rfl, by rw [hxv], hr⟩
        · cases hp
    · cases hp
  · rename_i f caps
    split at hp
    · rename_i g ls
      cases hg : (g == f) with
      | false => simp [hg] at hp
      | true =>
        simp only [hg, cond_true, Option.map_eq_some_iff] at hp
        have : g = f := by simpa using hg
        subst this
        obtain ⟨q, hq, rfl⟩ := hp
        obtain ⟨-, -, vs', rfl, hlen, hj⟩ := hs
        obtain ⟨ss, h1, h2, h3⟩ := capBoxes_backs h caps ls vs' hq hj hlen
        exact ⟨_, vs, q.2, bs, rfl, rfl, hr, .inr ⟨ss, h1, h2, by rw [h3]⟩⟩
    · rename_i s t
      cases hver : Nat.ble (get e0 s).ver t with
      | false => simp [hver] at hp
      | true =>
        simp only [hver, cond_true] at hp
        split at hp
        · rename_i g ds hv
          cases hg : (g == f) with
          | false => simp [hg] at hp
          | true =>
            simp only [hg, cond_true, Option.map_eq_some_iff] at hp
            have : g = f := by simpa using hg
            subst this
            obtain ⟨q, hq, rfl⟩ := hp
            have hx : x = tv tmps s := hs.2.2.2 (Nat.le_of_ble_eq_true hver)
            exact ⟨x, vs, [.clo s g caps], bs, rfl, rfl, hr, .inl ⟨s, rfl, hx⟩⟩
        · cases hp
    · cases hp

theorem passAll_backs {e0 : Env} {Of0 Rf0 : Nat → List Nat} (h : Rel w e0 tmps Of0 Rf0) : ∀ (pars : List Par) (vals : List Value) (args : List V) {env : Env}
    (hargs : ∀ (j : Nat) (v : V), args[j]? = some v → ∃ x R', vals[j]? = some x ∧ SlotOk w e0 tmps v x [] R' ∧ ∀ b ∈ R', ∃ s, b ∈ Rf0 s) (hlen : vals.length = args.length) {p : Pass} (hp : passAll e0 env pars args = some p),
    BacksOk tmps pars p.back vals := by
  intro pars
  induction pars with
  | nil =>
    intro vals args env hargs hlen p hp
    cases args with
    | cons a as => simp [passAll] at hp
    | nil =>
      simp [passAll] at hp
      subst hp
      exact ⟨rfl, List.eq_nil_of_length_eq_zero hlen⟩
  | cons pr pars ih =>
    intro vals args env hargs hlen p hp
    cases args with
    | nil => simp [passAll] at hp
    | cons v args =>
      cases vals with
      | nil => simp at hlen
      | cons x vals =>
        simp only [passAll, Option.bind_eq_some_iff, Option.map_eq_some_iff] at hp
        obtain ⟨a, ha, b, hb, rfl⟩ := hp
        obtain ⟨x', R', hx', hs, hR⟩ := hargs 0 v rfl
        simp at hx'
        subst hx'
        exact passOne_backs h hs ha (ih vals args (fun j v hj => by simpa using hargs (j + 1) v (by simpa using hj)) (by simpa using hlen) hb)

end
end Go.Vm

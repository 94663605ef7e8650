/- Values taken and coerced, for the evaluator Vm. Own work; lemmas. No condition. -/
import Derived.Test.YthnkkchlgepdaaaVmI
namespace Go.Vm
open Go.RowKit
set_option linter.unusedVariables false

theorem Tk.addR {w : World} {tmps : Array Value} {env : Env} {Of Rf : Nat → List Nat} {env1 : Env} {Of1 Rf1 : Nat → List Nat} {ws O1 R1 R2 : List Nat}
    (k : Tk w tmps env Of Rf env1 Of1 Rf1 ws O1 R1) (h : ∀ b ∈ R2, ∃ s, b ∈ Rf s) : Tk w tmps env Of Rf env1 Of1 Rf1 ws O1 (R1 ++ R2) :=
  { k with fromR := fun b hb => (List.mem_append.1 hb).elim (k.fromR b) (h b) }

theorem Dat.as_mk {u t : Ty} {a : An} {x : u.den} {p : An × t.den} (h : (⟨u, a, x⟩ : Dat).as t = some p) : ∃ e : u = t, p = (a, e ▸ x) := by
  unfold Dat.as at h
  split at h
  · rename_i e
    exact ⟨e, by simpa using h.symm⟩
  · cases h

/-- a struct's cells and what they are -/
def CL (w : World) (e0 : Env) (tmps : Array Value) (Rf : Nat → List Nat) : List Cel → List Value → Prop
  | [], [] => True
  | c :: cs, v :: vs => (match c with
      | .d u y => u.sz = 1 ∧ ∃ R, Rep w u .ro y [v] [] R ∧ ∀ b ∈ R, ∃ s, b ∈ Rf s
      | .ref l => RefOk w e0 tmps l none v
      | .bad => True) ∧ CL w e0 tmps Rf cs vs
  | _, _ => False

theorem CL.of {w : World} {e0 : Env} {tmps : Array Value} {Rf : Nat → List Nat} {cs : List Cel} {vs : List Value} {O R : List Nat} (h : RepL (RepCel w) cs vs O R) (hR : ∀ b ∈ R, ∃ s, b ∈ Rf s)
    (hj : ∀ (j : Nat) (l : Lk), cs[j]? = some (Cel.ref l) → ∃ v, vs[j]? = some v ∧ RefOk w e0 tmps l none v) : CL w e0 tmps Rf cs vs := by
  induction cs generalizing vs O R with
  | nil => obtain ⟨rfl, -, -⟩ := h; trivial
  | cons c cs ih =>
    obtain ⟨c1, c2, O1, O2, R1, R2, rfl, rfl, rfl, h1, h2⟩ := h
    have hl := h1.len.1
    obtain ⟨v, rfl⟩ : ∃ v, c1 = [v] := by
      cases c1 with
      | nil => simp at hl
      | cons v c => cases c with
        | nil => exact ⟨v, rfl⟩
        | cons => simp at hl
    refine ⟨?_, ih h2 (fun b hb => hR b (by simp [hb])) (fun j l hjl => by simpa using hj (j + 1) l (by simpa using hjl))⟩
    cases c with
    | d u y => exact ⟨h1.1, R1, h1.2.2, fun b hb => hR b (by simp [hb])⟩
    | ref l => obtain ⟨v', e, h'⟩ := hj 0 l (by simp); simp at e; subst e; exact h'
    | bad => trivial

theorem takeL_ok {w : World} {tmps : Array Value} {e0 : Env} {Of0 Rf0 : Nat → List Nat} (h0 : Rel w e0 tmps Of0 Rf0) {env : Env} {Of Rf : Nat → List Nat} {ws0 Oa Ra : List Nat}
    (k : Tk w tmps e0 Of0 Rf0 env Of Rf ws0 Oa Ra) {t : Ty} {cl rest : List Cel} {vs : List Value} (hc : CL w e0 tmps Rf0 cl vs) {q : Took t} (hq : takeL e0 t env cl = some (q, rest)) (ht : t.sz = 1) :
    ∃ c1 c2 O1 R1 Of1 Rf1, vs = c1 ++ c2 ∧ Rep w t q.a q.x c1 O1 R1 ∧ CL w e0 tmps Rf0 rest c2 ∧ Tk w tmps e0 Of0 Rf0 q.env Of1 Rf1 (ws0 ++ q.ws) (Oa ++ O1) (Ra ++ R1) := by
  cases cl with
  | nil => simp [takeL] at hq
  | cons c cs =>
    cases vs with
    | nil => exact hc.elim
    | cons v vs =>
      obtain ⟨hc1, hc2⟩ := hc
      cases c with
      | bad => simp [takeL] at hq
      | d u y =>
        obtain ⟨hu, R, hr, hR⟩ := hc1
        simp only [takeL, Option.map_eq_some_iff] at hq
        obtain ⟨p, hp, hq⟩ := hq
        obtain ⟨rfl, rfl⟩ := Dat.as_mk hp
        simp only [Prod.mk.injEq] at hq
        obtain ⟨rfl, rfl⟩ := hq
        exact ⟨[v], vs, [], R, Of, Rf, rfl, hr, hc2, by simpa using k.addR hR⟩
      | ref l =>
        simp only [takeL] at hq
        cases hf : (l.st.isEmpty && freshR e0 l) with
        | false => simp [hf] at hq
        | true =>
          simp only [hf, cond_true] at hq
          simp at hf
          cases hp : pull env l.s l.off with
          | none => simp [hp] at hq
          | some d =>
            obtain ⟨d, env1⟩ := d
            simp only [hp, Option.bind_some, Option.map_eq_some_iff] at hq
            obtain ⟨p, hpa, hq⟩ := hq
            simp only [Prod.mk.injEq] at hq
            obtain ⟨rfl, rfl⟩ := hq
            have hde := Dat.as_eq hpa
            subst hde
            obtain ⟨dd, cs', bk', hdr, O1, R1, Of1, Rf1, hob, hcs, hr, -, hk, hsm, -⟩ := pull_ok k.rel hp
            obtain ⟨cs0, bk0, hd, hloc, hcs0, -, hx⟩ := hc1.2 hf.2
            unfold locOf at hloc
            cases ho0 : obj w (get e0 l.s).v (tv tmps l.s) with
            | none => simp [ho0] at hloc
            | some p0 =>
              obtain ⟨d0, cs00, bk00⟩ := p0
              simp only [ho0, hf.1, loc, Option.some.injEq, Prod.mk.injEq] at hloc
              obtain ⟨rfl, rfl⟩ := hloc
              have hsome : (get env l.s).v.obj?.isSome = true := by
                unfold pull at hp
                cases hv : (get env l.s).v <;> simp [hv] at hp <;> rfl
              obtain ⟨d', hob', -⟩ := k.same l.s d0 cs00 bk00 ho0 hsome
              rw [hob] at hob'
              simp only [Option.some.injEq, Prod.mk.injEq] at hob'
              obtain ⟨-, rfl, -⟩ := hob'
              rw [hcs] at hcs0
              simp only [Option.some.injEq] at hcs0
              subst hcs0
              simp only [cutV] at hx
              subst hx
              exact ⟨[v], vs, O1, R1, Of1, Rf1, rfl, hr, hc2, Tk.trans h0 k hk hsm⟩

theorem takeC_ok {w : World} {tmps : Array Value} {e0 : Env} {Of0 Rf0 : Nat → List Nat} (h0 : Rel w e0 tmps Of0 Rf0) {t : Ty} : ∀ {env : Env} {Of Rf : Nat → List Nat} {ws0 Oa Ra : List Nat}
    (k : Tk w tmps e0 Of0 Rf0 env Of Rf ws0 Oa Ra) {cl rest : List Cel} {vs : List Value} (hc : CL w e0 tmps Rf0 cl vs) {q : Took t} (hq : takeC e0 t env cl = some (q, rest)),
    ∃ c1 c2 O1 R1 Of1 Rf1, vs = c1 ++ c2 ∧ Rep w t q.a q.x c1 O1 R1 ∧ CL w e0 tmps Rf0 rest c2 ∧ Tk w tmps e0 Of0 Rf0 q.env Of1 Rf1 (ws0 ++ q.ws) (Oa ++ O1) (Ra ++ R1) := by
  induction t with
  | pair t u iht ihu =>
    intro env Of Rf ws0 Oa Ra k cl rest vs hc q hq
    simp only [takeC] at hq
    cases h1 : takeC e0 t env cl with
    | none => simp [h1] at hq
    | some p =>
      obtain ⟨p, mid⟩ := p
      simp only [h1, Option.bind_some, Option.map_eq_some_iff] at hq
      obtain ⟨r, h2, hq⟩ := hq
      obtain ⟨r, rest'⟩ := r
      simp only [Prod.mk.injEq] at hq
      obtain ⟨rfl, rfl⟩ := hq
      obtain ⟨c1, c2, O1, R1, Of1, Rf1, rfl, hr1, hc1, hk1⟩ := iht k hc h1
      obtain ⟨d1, d2, O2, R2, Of2, Rf2, rfl, hr2, hc2, hk2⟩ := ihu hk1 hc1 h2
      refine ⟨c1 ++ d1, d2, O1 ++ O2, R1 ++ R2, Of2, Rf2, by simp, ?_, hc2, by simpa [List.append_assoc] using hk2⟩
      exact ⟨c1, d1, O1, O2, R1, R2, rfl, rfl, rfl, by rw [An.mkp_l]; exact hr1, by rw [An.mkp_r]; exact hr2⟩
  | int k => intro env Of Rf ws0 Oa Ra k cl rest vs hc q hq; exact takeL_ok h0 k hc hq rfl
  | bool => intro env Of Rf ws0 Oa Ra k cl rest vs hc q hq; exact takeL_ok h0 k hc hq rfl
  | str => intro env Of Rf ws0 Oa Ra k cl rest vs hc q hq; exact takeL_ok h0 k hc hq rfl
  | sl e _ => intro env Of Rf ws0 Oa Ra k cl rest vs hc q hq; exact takeL_ok h0 k hc hq rfl

theorem CL.nil_of {w : World} {e0 : Env} {tmps : Array Value} {Rf : Nat → List Nat} {vs : List Value} (h : CL w e0 tmps Rf [] vs) : vs = [] := by
  cases vs with
  | nil => rfl
  | cons => exact h.elim

/-- A VALUE TAKEN. -/
theorem takeV_gen {w : World} {tmps : Array Value} {e0 : Env} {Of0 Rf0 : Nat → List Nat} (h : Rel w e0 tmps Of0 Rf0) {env : Env} {Of Rf : Nat → List Nat} {ws0 Oa Ra : List Nat}
    (k : Tk w tmps e0 Of0 Rf0 env Of Rf ws0 Oa Ra) {v : V} {x : Value} {R' : List Nat} (hv : SlotOk w e0 tmps v x [] R')
    (hR : ∀ b ∈ R', ∃ s, b ∈ Rf0 s) {t : Ty} {an : An} {q : Took t} (hq : takeV e0 env t an v = some q) :
    ∃ cs O1 R1 Of1 Rf1, Packed t cs x ∧ Rep w t q.a q.x cs O1 R1 ∧ Tk w tmps e0 Of0 Rf0 q.env Of1 Rf1 (ws0 ++ q.ws) (Oa ++ O1) (Ra ++ R1) := by
  cases v with
  | dat u a y =>
    simp only [takeV, Option.map_eq_some_iff] at hq
    obtain ⟨p, hp, rfl⟩ := hq
    obtain ⟨rfl, rfl⟩ := Dat.as_mk hp
    obtain ⟨cs, hk, hr⟩ := hv
    exact ⟨cs, [], R', Of, Rf, hk, hr, by simpa using k.addR hR⟩
  | ref l cut =>
    cases cut with
    | some c => simp [takeV] at hq
    | none =>
      simp only [takeV, Option.map_eq_some_iff] at hq
      obtain ⟨⟨q', rest⟩, hq', rfl⟩ := hq
      have hc : CL w e0 tmps Rf0 [.ref l] [x] := ⟨hv.2.2, trivial⟩
      obtain ⟨c1, c2, O1, R1, Of1, Rf1, hvs, hr, hc2, hk⟩ := takeC_ok h k hc hq'
      have hl := hr.len.1
      have hl2 : c1.length + c2.length = 1 := by have := congrArg List.length hvs; simpa using this.symm
      have hts := t.sz_pos
      have hc2' : c2 = [] := List.eq_nil_of_length_eq_zero (by omega)
      subst hc2'
      simp at hvs
      subst hvs
      refine ⟨[x], O1, R1, Of1, Rf1, ?_, hr, by simpa using hk⟩
      cases t with
      | pair t u => have := t.sz_pos; have := u.sz_pos; simp [Ty.sz] at hl; omega
      | _ => rfl
  | agg cs =>
    cases t with
    | pair t u =>
      simp only [takeV] at hq
      obtain ⟨vs, rfl, hl, hj⟩ := hv
      have hc := CL.of hl hR hj
      cases h1 : takeC e0 (.pair t u) env cs with
      | none => simp [h1] at hq
      | some p =>
        obtain ⟨p, rest⟩ := p
        simp only [h1, Option.bind_some] at hq
        cases rest with
        | cons => simp at hq
        | nil =>
          simp only [Option.some.injEq] at hq
          subst hq
          obtain ⟨c1, c2, O1, R1, Of1, Rf1, rfl, hr, hc2, hk⟩ := takeC_ok h k hc h1
          have := hc2.nil_of
          subst this
          exact ⟨c1, O1, R1, Of1, Rf1, by simp [Packed], hr, by simpa using hk⟩
    | _ => simp [takeV] at hq
  | nil =>
    cases t with
    | sl e =>
      simp only [takeV, Option.some.injEq] at hq
      subst hq
      obtain ⟨-, -, rfl⟩ := hv
      refine ⟨[.slice none 0 0], [], [], Of, Rf, rfl, ?_, by simpa using k⟩
      cases an with
      | own el a => exact ⟨_, [], [], rfl, World.ownsRow_nil w 0 el e.sz, by simp [maxEl], rfl, rfl, rfl, rfl⟩
      | _ => exact ⟨rfl, .inl ⟨rfl, rfl, none, 0, rfl⟩⟩
    | _ => simp [takeV] at hq
  | _ => simp [takeV] at hq

/-- A VALUE TAKEN, nothing before. -/
theorem takeV_ok {w : World} {tmps : Array Value} {env : Env} {Of Rf : Nat → List Nat} (h : Rel w env tmps Of Rf) {v : V} {x : Value} {R' : List Nat} (hv : SlotOk w env tmps v x [] R')
    (hR : ∀ b ∈ R', ∃ s, b ∈ Rf s) {t : Ty} {an : An} {q : Took t} (hq : takeV env env t an v = some q) :
    ∃ cs O1 R1 Of1 Rf1, Packed t cs x ∧ Rep w t q.a q.x cs O1 R1 ∧ Tk w tmps env Of Rf q.env Of1 Rf1 q.ws O1 R1 := by
  simpa using takeV_gen h (Tk.none h (R1 := []) (by simp)) hv hR hq

theorem RepL.coe {α : Type} {f g : α → List Value → List Nat → List Nat → Prop} {xs : List α} {cs : List Value} {O R : List Nat}
    (h : RepL f xs cs O R) (hnd : O.Nodup) (hur : ∀ b ∈ O, b ∉ R)
    (hf : ∀ x c O1 R1, f x c O1 R1 → O1.Nodup → (∀ b ∈ O1, b ∉ R1) → ∃ O2 R2, g x c O2 R2 ∧ O2.Sublist O1 ∧ (∀ b ∈ R2, b ∈ O1 ∨ b ∈ R1) ∧ ∀ b ∈ O2, b ∉ R2) :
    ∃ O' R', RepL g xs cs O' R' ∧ O'.Sublist O ∧ (∀ b ∈ R', b ∈ O ∨ b ∈ R) ∧ ∀ b ∈ O', b ∉ R' := by
  induction xs generalizing cs O R with
  | nil => obtain ⟨rfl, rfl, rfl⟩ := h; exact ⟨[], [], ⟨rfl, rfl, rfl⟩, by simp, by simp, by simp⟩
  | cons x xs ih =>
    obtain ⟨c1, c2, O1, O2, R1, R2, rfl, rfl, rfl, h1, h2⟩ := h
    rw [List.nodup_append] at hnd
    obtain ⟨Oa, Ra, ha, ha1, ha2, ha3⟩ := hf _ _ _ _ h1 hnd.1 (fun b hb hr => hur b (by simp [hb]) (by simp [hr]))
    obtain ⟨Ob, Rb, hb, hb1, hb2, hb3⟩ := ih h2 hnd.2.1 (fun b hb hr => hur b (by simp [hb]) (by simp [hr]))
    refine ⟨Oa ++ Ob, Ra ++ Rb, ⟨c1, c2, Oa, Ob, Ra, Rb, rfl, rfl, rfl, ha, hb⟩, ha1.append hb1, ?_, ?_⟩
    · intro b h; simp only [List.mem_append] at h ⊢
      rcases h with h | h
      · have := ha2 b h; grind
      · have := hb2 b h; grind
    · intro b h h'
      simp only [List.mem_append] at h h'
      rcases h with h | h <;> rcases h' with h' | h'
      · exact ha3 b h h'
      · have h5 := ha1.subset h
        rcases hb2 b h' with h6 | h6
        · exact hnd.2.2 b h5 b h6 rfl
        · exact hur b (by simp [h5]) (by simp [h6])
      · have h5 := hb1.subset h
        rcases ha2 b h' with h6 | h6
        · exact hnd.2.2 b h6 b h5 rfl
        · exact hur b (by simp [h5]) (by simp [h6])
      · exact hb3 b h h'

/-- WHAT IS OWNED, TAKEN FOR LESS. -/
theorem Rep.coe {w : World} {t : Ty} {a b : An} {x : t.den} {cs : List Value} {O R : List Nat} (h : Rep w t a x cs O R) (hc : a.coe b = true) (hnd : O.Nodup) (hur : ∀ b ∈ O, b ∉ R) :
    ∃ O' R', Rep w t b x cs O' R' ∧ O'.Sublist O ∧ (∀ c ∈ R', c ∈ O ∨ c ∈ R) ∧ ∀ c ∈ O', c ∉ R' := by
  have scal : ∀ {t : Ty} {a b : An} {x : t.den} {cs : List Value} {O R : List Nat}, (∀ e, t ≠ .sl e) → (∀ u v, t ≠ .pair u v) → Rep w t a x cs O R → a.coe b = true → Rep w t b x cs O R := by
    intro t a b x cs O R h1 h2 h hc
    cases t with
    | sl e => exact absurd rfl (h1 e)
    | pair u v => exact absurd rfl (h2 u v)
    | _ => cases a <;> cases b <;> first | exact h | simp [An.coe, An.plain] at hc
  induction t generalizing a b cs O R with
  | int k => exact ⟨O, R, scal (by simp) (by simp) h hc, .refl _, fun c hc => .inr hc, hur⟩
  | bool => exact ⟨O, R, scal (by simp) (by simp) h hc, .refl _, fun c hc => .inr hc, hur⟩
  | str => exact ⟨O, R, scal (by simp) (by simp) h hc, .refl _, fun c hc => .inr hc, hur⟩
  | pair t u iht ihu =>
    obtain ⟨c1, c2, O1, O2, R1, R2, rfl, rfl, rfl, h1, h2⟩ := h
    rw [List.nodup_append] at hnd
    have hok : ∀ a : An, a.ok = true → a.coe .ro = true := by intro a h; cases a <;> simp_all [An.coe, An.ok, An.plain]
    have hll : a.l.coe b.l = true := by
      cases a <;> cases b <;> simp_all [An.coe, An.l, An.plain]
    have hrr : a.r.coe b.r = true := by
      cases a <;> cases b <;> simp_all [An.coe, An.r, An.plain]
    obtain ⟨Oa, Ra, ha, ha1, ha2, ha3⟩ := iht h1 hll hnd.1 (fun b hb hr => hur b (by simp [hb]) (by simp [hr]))
    obtain ⟨Ob, Rb, hb, hb1, hb2, hb3⟩ := ihu h2 hrr hnd.2.1 (fun b hb hr => hur b (by simp [hb]) (by simp [hr]))
    refine ⟨Oa ++ Ob, Ra ++ Rb, ⟨c1, c2, Oa, Ob, Ra, Rb, rfl, rfl, rfl, ha, hb⟩, ha1.append hb1, ?_, ?_⟩
    · intro b h; simp only [List.mem_append] at h ⊢
      rcases h with h | h
      · have := ha2 b h; grind
      · have := hb2 b h; grind
    · intro b h h'
      simp only [List.mem_append] at h h'
      rcases h with h | h <;> rcases h' with h' | h'
      · exact ha3 b h h'
      · have h5 := ha1.subset h
        rcases hb2 b h' with h6 | h6
        · exact hnd.2.2 b h5 b h6 rfl
        · exact hur b (by simp [h5]) (by simp [h6])
      · have h5 := hb1.subset h
        rcases ha2 b h' with h6 | h6
        · exact hnd.2.2 b h6 b h5 rfl
        · exact hur b (by simp [h5]) (by simp [h6])
      · exact hb3 b h h'
  | sl e ih =>
    have toro : a.ok = true → (b = .ro ∨ ∃ c d, b = .pair c d) → ∃ O' R', Rep w (.sl e) b x cs O' R' ∧ O'.Sublist O ∧ (∀ c ∈ R', c ∈ O ∨ c ∈ R) ∧ ∀ c ∈ O', c ∉ R' := by
      intro hk hb
      obtain ⟨R', h1, h2⟩ := h.toRo hk
      refine ⟨[], R', ?_, by simp, h2, by simp⟩
      rcases hb with rfl | ⟨c, d, rfl⟩
      · exact h1
      · exact h1
    have same : (a = .ro ∨ ∃ c d, a = .pair c d) → (b = .ro ∨ ∃ c d, b = .pair c d) → ∃ O' R', Rep w (.sl e) b x cs O' R' ∧ O'.Sublist O ∧ (∀ c ∈ R', c ∈ O ∨ c ∈ R) ∧ ∀ c ∈ O', c ∉ R' := by
      intro ha hb
      refine ⟨O, R, ?_, .refl _, fun c hc => .inr hc, hur⟩
      rcases ha with rfl | ⟨c, d, rfl⟩ <;> rcases hb with rfl | ⟨c', d', rfl⟩ <;> exact h
    cases a with
    | ro =>
      cases b with
      | ro => exact same (.inl rfl) (.inl rfl)
      | pair c d => exact same (.inl rfl) (.inr ⟨c, d, rfl⟩)
      | _ => simp [An.coe, An.plain] at hc
    | hole =>
      cases b with
      | hole => exact ⟨O, R, h, .refl _, fun c hc => .inr hc, hur⟩
      | _ => simp [An.coe] at hc
    | pair c d =>
      cases b with
      | ro => exact same (.inr ⟨c, d, rfl⟩) (.inl rfl)
      | pair c' d' => exact same (.inr ⟨c, d, rfl⟩) (.inr ⟨c', d', rfl⟩)
      | _ => simp [An.coe] at hc
    | own el ae =>
      cases b with
      | ro => exact toro (by simpa [An.coe, An.ok] using hc) (.inl rfl)
      | own f be =>
        simp [An.coe] at hc
        obtain ⟨rfl, hc⟩ := hc
        obtain ⟨v, cells, O', rfl, ho, hm, rfl, hl⟩ := h
        rw [List.nodup_append] at hnd
        obtain ⟨O2, R2, h2, h3, h4, h5⟩ := hl.coe (g := Rep w e be) hnd.2.1 (fun b hb hr => hur b (by simp [hb]) hr) (fun y c O1 R1 hy h1 h2 => ih hy hc h1 h2)
        refine ⟨v.ownBlock.toList ++ O2, R2, ⟨v, cells, O2, rfl, ho, hm, rfl, h2⟩, (List.Sublist.refl _).append h3, ?_, ?_⟩
        · intro c hc'; rcases h4 c hc' with h | h
          · exact .inl (by simp [h])
          · exact .inr h
        · intro c hc' hr
          rcases List.mem_append.1 hc' with h | h
          · rcases h4 c hr with h6 | h6
            · exact hnd.2.2 c h c h6 rfl
            · exact hur c (by simp [h]) h6
          · exact h5 c h hr
      | _ => simp [An.coe] at hc

end Go.Vm

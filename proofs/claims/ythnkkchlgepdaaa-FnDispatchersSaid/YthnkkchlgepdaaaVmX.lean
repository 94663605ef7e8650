/- What a call of the evaluator Vm hands over. Own work; lemmas. No condition. -/
import Derived.Test.YthnkkchlgepdaaaVmW
namespace Go.Vm
open Go.RowKit
set_option linter.unusedVariables false

section
variable {P : Program} {w : World} {env : Env} {tmps : Array Value} {Of Rf : Nat → List Nat} {o : Oper} {d : Nat}

theorem RepBox.coe {u : Dat} {b : An} {c : List Value} {O R : List Nat} (h : RepBox w u c O R) (hc : u.a.coe b = true) (hnd : O.Nodup) (hur : ∀ b ∈ O, b ∉ R) :
    ∃ O' R', RepBox w ⟨u.t, b, u.x⟩ c O' R' ∧ O'.Sublist O ∧ (∀ b ∈ R', b ∈ O ∨ b ∈ R) ∧ ∀ b ∈ O', b ∉ R' := by
  obtain ⟨g, C, el, O1, rfl, hg, hr, rfl⟩ := h
  rw [List.nodup_cons] at hnd
  obtain ⟨O', R', h1, h2, h3, h4⟩ := hr.coe hc hnd.2 (fun b hb => hur b (by simp [hb]))
  refine ⟨g :: O', R', ⟨g, C, el, O', rfl, hg, h1, rfl⟩, List.Sublist.cons_cons _ h2, fun b hb => (h3 b hb).imp (fun hx => by simp [hx]) id, ?_⟩
  intro b hb hb'
  simp at hb
  rcases hb with rfl | hb
  · rcases h3 b hb' with hx | hx
    · exact hnd.1 hx
    · exact hur b (by simp) hx
  · exact h4 b hb hb'

/-- the blocks that a row of slots owns -/
def OfAll (Of : Nat → List Nat) : List Nat → List Nat
  | [] => []
  | s :: ss => Of s ++ OfAll Of ss
theorem mem_OfAll {Of : Nat → List Nat} {ss : List Nat} {b : Nat} : b ∈ OfAll Of ss ↔ ∃ s ∈ ss, b ∈ Of s := by
  induction ss with
  | nil => simp [OfAll]
  | cons s ss ih => simp [OfAll, ih]

/-- variables behind pointers, handed over -/
theorem capBoxes_ok (h : Rel w env tmps Of Rf) : ∀ (cs : List (Ty × An)) (ls : List Lk) (vs : List Value) {q : List (Σ t : Ty, t.den) × List Back}, capBoxes env cs ls = some q →
    (∀ (j : Nat) (l : Lk), ls[j]? = some l → ∃ v, vs[j]? = some v ∧ PtrOk w env tmps l v) → vs.length = ls.length → (q.2.map Back.s).Nodup →
    ∃ Os Rs, RepL (RepBox w) (toDats cs q.1) vs Os Rs ∧ q.1.map (·.1) = cs.map (·.1) ∧ Os.Nodup ∧ (∀ b ∈ Os, b ∈ OfAll Of (q.2.map Back.s)) ∧ (∀ b ∈ Rs, b ∈ OfAll Of (q.2.map Back.s) ∨ ∃ s, b ∈ Rf s) ∧ (∀ b ∈ Os, b ∉ Rs) := by
  intro cs
  induction cs with
  | nil =>
    intro ls vs q hq hl hn hnd
    cases ls with
    | cons l ls => simp [capBoxes] at hq
    | nil =>
      simp [capBoxes] at hq
      subst hq
      have : vs = [] := List.eq_nil_of_length_eq_zero hn
      subst this
      exact ⟨[], [], ⟨rfl, rfl, rfl⟩, rfl, by simp, by simp, by simp, by simp⟩
  | cons c cs ih =>
    obtain ⟨t, a⟩ := c
    intro ls vs q hq hl hn hnd
    cases ls with
    | nil => simp [capBoxes] at hq
    | cons l ls =>
      cases vs with
      | nil => simp at hn
      | cons v vs =>
        simp only [capBoxes] at hq
        cases hc : freshP env l && l.st.isEmpty && (l.off == 0) with
        | false => simp [hc] at hq
        | true =>
          simp only [hc, cond_true] at hq
          simp only [Bool.and_eq_true, beq_iff_eq] at hc
          split at hq
          · rename_i u b x hv
            simp only [Option.bind_eq_some_iff] at hq
            obtain ⟨p, hp, hq⟩ := hq
            obtain ⟨he, rfl⟩ := Dat.as_mk hp
            subst he
            cases hco : b.coe a with
            | false => simp [hco] at hq
            | true =>
              simp only [hco, cond_true, Option.map_eq_some_iff] at hq
              obtain ⟨q', hq', rfl⟩ := hq
              simp only [List.map_cons, Back.s, List.nodup_cons] at hnd
              obtain ⟨Os, Rs, h1, h2, h3, h4, h5, h6⟩ := ih ls vs hq' (fun j l' hj => by simpa using hl (j + 1) l' (by simpa using hj)) (by simpa using hn) hnd.2
              have hs := h.slot l.s
              rw [hv] at hs
              obtain ⟨v', hv', hpo⟩ := hl 0 l (by simp)
              simp at hv'
              subst hv'
              have hvx : v = tv tmps l.s := by
                obtain ⟨cs1, b1, k1, hloc, hx⟩ := hpo.2 hc.1.1
                obtain ⟨g, C, el, O1, hg, hgh, hr, -⟩ := hs
                simp at hg
                unfold locOf at hloc
                rw [hv, hg] at hloc
                have hst : l.st = [] := by simpa using hc.1.2
                simp only [obj, hst, loc, Option.some.injEq, Prod.mk.injEq] at hloc
                obtain ⟨-, rfl, rfl⟩ := hloc
                rw [hx, hg, hc.2]
              rw [← hvx] at hs
              obtain ⟨O', R', g1, g2, g3, g4⟩ := RepBox.coe (u := ⟨u, b, x⟩) hs hco (h.nodup l.s) (fun b hb => h.unread l.s l.s b hb)
              refine ⟨O' ++ Os, R' ++ Rs, ⟨[v], vs, O', Os, R', Rs, rfl, rfl, rfl, g1, h1⟩, by simp [h2], ?_, ?_, ?_, ?_⟩
              · rw [List.nodup_append]
                refine ⟨g2.nodup (h.nodup l.s), h3, fun x hx y hy e => ?_⟩
                subst e
                obtain ⟨s', hs', hm⟩ := mem_OfAll.1 (h4 x hy)
                exact h.apart l.s s' x (fun e => hnd.1 (e ▸ hs')) (g2.subset hx) hm
              · intro y hy
                simp only [List.map_cons, Back.s, OfAll, List.mem_append] at hy ⊢
                rcases hy with hy | hy
                · exact .inl (g2.subset hy)
                · exact .inr (h4 y hy)
              · intro y hy
                simp only [List.map_cons, Back.s, OfAll, List.mem_append] at hy ⊢
                rcases hy with hy | hy
                · rcases g3 y hy with hz | hz
                  · exact .inl (.inl hz)
                  · exact .inr ⟨_, hz⟩
                · rcases h5 y hy with hz | hz
                  · exact .inl (.inr hz)
                  · exact .inr hz
              · intro y hy hy'
                simp only [List.mem_append] at hy hy'
                rcases hy with hy | hy <;> rcases hy' with hy' | hy'
                · exact g4 y hy hy'
                · rcases h5 y hy' with hz | ⟨s', hz⟩
                  · obtain ⟨s', hs', hm⟩ := mem_OfAll.1 hz
                    exact h.apart l.s s' y (fun e => hnd.1 (e ▸ hs')) (g2.subset hy) hm
                  · exact h.unread l.s s' y (g2.subset hy) hz
                · obtain ⟨s', hs', hm⟩ := mem_OfAll.1 (h4 y hy)
                  rcases g3 y hy' with hz | hz
                  · exact h.apart l.s s' y (fun e => hnd.1 (e ▸ hs')) hz hm
                  · exact h.unread s' l.s y hm hz
                · exact h6 y hy hy'
          · cases hq

theorem Rep.of_ro {t : Ty} {a : An} {x : t.den} {cs : List Value} {O R : List Nat} (h : Rep w t .ro x cs O R) (hp : a.plain = true) : Rep w t a x cs O R := by
  induction t generalizing a cs O R with
  | pair t u iht ihu =>
    obtain ⟨c1, c2, O1, O2, R1, R2, rfl, rfl, rfl, h1, h2⟩ := h
    have hl : a.l.plain = true := by cases a <;> simp_all [An.l, An.plain]
    have hr : a.r.plain = true := by cases a <;> simp_all [An.r, An.plain]
    exact ⟨c1, c2, O1, O2, R1, R2, rfl, rfl, rfl, iht h1 hl, ihu h2 hr⟩
  | int k | bool | str | sl e => cases a <;> first | (simp [An.plain] at hp; done) | exact h

theorem Rep.ro_own {t : Ty} {a : An} {x : t.den} {cs : List Value} {O R : List Nat} (h : Rep w t .ro x cs O R) : O = [] := (h.ro_of rfl).1

theorem lendL_ok (h : Rel w env tmps Of Rf) {t : Ty} {cl rest : List Cel} {vs : List Value} (hc : CL w env tmps Rf cl vs) {x : t.den} {bor : List Nat} (hq : lendL env t cl = some (x, bor, rest)) :
    ∃ c1 c2 R, vs = c1 ++ c2 ∧ Rep w t .ro x c1 [] R ∧ CL w env tmps Rf rest c2 ∧ ∀ b ∈ R, b ∈ OfAll Of bor ∨ ∃ s, b ∈ Rf s := by
  cases cl with
  | nil => simp [lendL] at hq
  | cons c cs =>
    cases vs with
    | nil => exact hc.elim
    | cons v vs =>
      obtain ⟨hc1, hc2⟩ := hc
      cases c with
      | bad => simp [lendL] at hq
      | d u y =>
        obtain ⟨hu, R, hr, hR⟩ := hc1
        simp only [lendL, Option.map_eq_some_iff] at hq
        obtain ⟨p, hp, hq⟩ := hq
        obtain ⟨rfl, rfl⟩ := Dat.as_mk hp
        simp only [Prod.mk.injEq] at hq
        obtain ⟨rfl, rfl, rfl⟩ := hq
        exact ⟨[v], vs, R, rfl, hr, hc2, fun b hb => .inr (hR b hb)⟩
      | ref l =>
        simp only [lendL, Option.bind_eq_some_iff] at hq
        obtain ⟨dd, hrd, hq⟩ := hq
        split at hq
        · rename_i u el a y
          cases ha : a.ok with
          | false => simp [ha] at hq
          | true =>
            simp only [ha, cond_true, Option.map_eq_some_iff] at hq
            obtain ⟨p, hp, hq⟩ := hq
            obtain ⟨rfl, rfl⟩ := Dat.as_mk hp
            simp only [Prod.mk.injEq] at hq
            obtain ⟨rfl, rfl, rfl⟩ := hq
            obtain ⟨cs1, bk, hd, O1, R1, hxv, hck, hloc, hcs, hrep, hO1, hR1, -⟩ := rdR_ok h hc1 hrd
            obtain ⟨R', hr', hsub⟩ := hrep.toRo (by exact ha)
            simp only [cutV] at hxv
            subst hxv
            exact ⟨[v], vs, R', rfl, hr', hc2, fun b hb => (hsub b hb).imp (fun hx => mem_OfAll.2 ⟨l.s, by simp, hO1 b hx⟩) fun hx => ⟨l.s, hR1 b hx⟩⟩
        · cases hq

theorem OfAll_append (Of : Nat → List Nat) (a b : List Nat) : OfAll Of (a ++ b) = OfAll Of a ++ OfAll Of b := by
  induction a with
  | nil => rfl
  | cons x a ih => simp [OfAll, ih]

theorem lendC_ok (h : Rel w env tmps Of Rf) {t : Ty} : ∀ {cl rest : List Cel} {vs : List Value} (hc : CL w env tmps Rf cl vs) {x : t.den} {bor : List Nat} (hq : lendC env t cl = some (x, bor, rest)),
    ∃ c1 c2 R, vs = c1 ++ c2 ∧ Rep w t .ro x c1 [] R ∧ CL w env tmps Rf rest c2 ∧ ∀ b ∈ R, b ∈ OfAll Of bor ∨ ∃ s, b ∈ Rf s := by
  induction t with
  | pair t u iht ihu =>
    intro cl rest vs hc x bor hq
    simp only [lendC, Option.bind_eq_some_iff, Option.map_eq_some_iff] at hq
    obtain ⟨⟨x1, b1, m⟩, h1, ⟨x2, b2, r⟩, h2, hq⟩ := hq
    simp only [Prod.mk.injEq] at hq
    obtain ⟨rfl, rfl, rfl⟩ := hq
    obtain ⟨c1, c2, R1, rfl, hr1, hc1, hb1⟩ := iht hc h1
    obtain ⟨d1, d2, R2, rfl, hr2, hc2, hb2⟩ := ihu hc1 h2
    refine ⟨c1 ++ d1, d2, R1 ++ R2, by simp, ⟨c1, d1, [], [], R1, R2, rfl, rfl, rfl, hr1, hr2⟩, hc2, fun b hb => ?_⟩
    rw [OfAll_append]
    simp only [List.mem_append] at hb ⊢
    rcases hb with hb | hb
    · exact (hb1 b hb).imp .inl id
    · exact (hb2 b hb).imp .inr id
  | int k => intro cl rest vs hc x bor hq; exact lendL_ok h hc hq
  | bool => intro cl rest vs hc x bor hq; exact lendL_ok h hc hq
  | str => intro cl rest vs hc x bor hq; exact lendL_ok h hc hq
  | sl e _ => intro cl rest vs hc x bor hq; exact lendL_ok h hc hq

theorem passVal_ok (h : Rel w env tmps Of Rf) {t : Ty} {v : V} {x : Value} {R' : List Nat} (hs : SlotOk w env tmps v x [] R') (hR : ∀ b ∈ R', ∃ s, b ∈ Rf s) {q : t.den × List Nat} (hq : passVal env t v = some q) :
    ∃ cs R, Packed t cs x ∧ Rep w t .ro q.1 cs [] R ∧ ∀ b ∈ R, b ∈ OfAll Of q.2 ∨ ∃ s, b ∈ Rf s := by
  unfold passVal at hq
  split at hq
  · rename_i u b y
    cases hp : b.plain with
    | false => simp [hp] at hq
    | true =>
      simp only [hp, cond_true, Option.map_eq_some_iff] at hq
      obtain ⟨p, hp', rfl⟩ := hq
      obtain ⟨rfl, rfl⟩ := Dat.as_mk hp'
      obtain ⟨cs, hk, hr⟩ := hs
      exact ⟨cs, R', hk, (hr.ro_of hp).2, fun b hb => .inr (hR b hb)⟩
  · rename_i l cut
    split at hq
    · rename_i e el ae xs hrd
      cases hc : ae.ok && cutSz cut e.sz with
      | false => simp [hc] at hq
      | true =>
        simp only [hc, cond_true, Option.map_eq_some_iff] at hq
        simp only [Bool.and_eq_true] at hc
        obtain ⟨p, hp, rfl⟩ := hq
        obtain ⟨rfl, rfl⟩ := Dat.as_mk hp
        obtain ⟨cs1, bk, hd, O1, R1, hxv, hck, hloc, hcs, hrep, hO1, hR1, -⟩ := rdR_ok h hs.2.2 hrd
        obtain ⟨R2, hr2, hsub⟩ := hrep.toRo (by exact hc.1)
        have hin : ∀ b ∈ R2, b ∈ OfAll Of [l.s] ∨ ∃ s, b ∈ Rf s := fun b hb => (hsub b hb).imp (fun hx => mem_OfAll.2 ⟨l.s, by simp, hO1 b hx⟩) fun hx => ⟨l.s, hR1 b hx⟩
        cases cut with
        | none =>
          simp only [cutV] at hxv
          subst hxv
          exact ⟨[x], R2, rfl, hr2, hin⟩
        | some c =>
          obtain ⟨lo, n, z⟩ := c
          have hz : z = e.sz := by simpa [cutSz] using hc.2
          subst hz
          obtain ⟨p', len', cap', he, hle⟩ := hck
          have hhl := hdr_len hrep (by simp)
          obtain ⟨⟨p2, cap2, he2⟩, -⟩ := hhl
          rw [he] at he2
          simp only [Value.slice.injEq] at he2
          obtain ⟨rfl, rfl, rfl⟩ := he2
          obtain ⟨p3, cap3, he3, -, R3, hr3, hsub3⟩ := ro_slice (xs := xs) hr2 (A := lo) (B := lo + n) (by omega) hle
          rw [he] at he3
          simp only [Value.slice.injEq] at he3
          obtain ⟨rfl, -, rfl⟩ := he3
          refine ⟨[x], R3, rfl, ?_, fun b hb => hin b (hsub3 b hb)⟩
          rw [hxv, he]
          simp only [cutV]
          have e1 : lo + n - lo = n := by omega
          rw [e1] at hr3
          have e2 : (List.take (lo + n) (xs : List e.den)).drop lo = cutL (xs : List e.den) (some (lo, n, e.sz)) := by
            simp only [cutL]
            rw [List.drop_take]
            congr 1
          rw [e2] at hr3
          exact hr3
    · cases hq
  · rename_i cs
    split at hq
    · rename_i t1 t2
      simp only [Option.bind_eq_some_iff] at hq
      obtain ⟨⟨y, bor, rest⟩, hl, hq⟩ := hq
      cases rest with
      | cons => simp at hq
      | nil =>
        simp only [Option.some.injEq] at hq
        subst hq
        obtain ⟨vs, rfl, hrl, hj⟩ := hs
        obtain ⟨c1, c2, R, rfl, hr, hc2, hb⟩ := lendC_ok h (CL.of hrl hR hj) hl
        have := hc2.nil_of
        subst this
        exact ⟨c1, R, by simp [Packed], hr, hb⟩
    · cases hq
  · split at hq
    · rename_i e
      simp only [Option.some.injEq] at hq
      subst hq
      obtain ⟨-, -, rfl⟩ := hs
      exact ⟨[.slice none 0 0], [], rfl, ⟨rfl, .inl ⟨rfl, rfl, none, 0, rfl⟩⟩, by simp⟩
    · cases hq
  · cases hq

theorem capDats_ok : ∀ (cs : List (Ty × An)) (ds : List Dat) (vs : List Value) {q : List (Σ t : Ty, t.den)} {O R : List Nat}, capDats cs ds = some q → RepL (RepBox w) ds vs O R → O.Nodup → (∀ b ∈ O, b ∉ R) →
    ∃ O' R', RepL (RepBox w) (toDats cs q) vs O' R' ∧ q.map (·.1) = cs.map (·.1) ∧ O'.Sublist O ∧ (∀ b ∈ R', b ∈ O ∨ b ∈ R) ∧ ∀ b ∈ O', b ∉ R'
  | [], [], vs, q, O, R, hq, hl, hnd, hur => by
    simp [capDats] at hq; subst hq
    obtain ⟨rfl, rfl, rfl⟩ := hl
    exact ⟨[], [], ⟨rfl, rfl, rfl⟩, rfl, List.Sublist.refl _, by simp, by simp⟩
  | [], _ :: _, vs, q, O, R, hq, hl, hnd, hur => by simp [capDats] at hq
  | _ :: _, [], vs, q, O, R, hq, hl, hnd, hur => by simp [capDats] at hq
  | (t, a) :: cs, d :: ds, vs, q, O, R, hq, hl, hnd, hur => by
    simp only [capDats, Option.bind_eq_some_iff] at hq
    obtain ⟨p, hp, hq⟩ := hq
    obtain ⟨dt, da, dx⟩ := d
    obtain ⟨he, rfl⟩ := Dat.as_mk hp
    subst he
    cases hco : da.coe a with
    | false => simp [hco] at hq
    | true =>
      simp only [hco, cond_true, Option.map_eq_some_iff] at hq
      obtain ⟨q', hq', rfl⟩ := hq
      obtain ⟨c1, c2, O1, O2, R1, R2, rfl, rfl, rfl, h1, h2⟩ := hl
      rw [List.nodup_append] at hnd
      obtain ⟨Oa, Ra, g1, g2, g3, g4⟩ := h1.coe hco hnd.1 (fun b hb hr => hur b (by simp [hb]) (by simp [hr]))
      obtain ⟨Ob, Rb, k1, k2, k3, k4, k5⟩ := capDats_ok cs ds c2 hq' h2 hnd.2.1 (fun b hb hr => hur b (by simp [hb]) (by simp [hr]))
      refine ⟨Oa ++ Ob, Ra ++ Rb, ⟨c1, c2, Oa, Ob, Ra, Rb, rfl, rfl, rfl, g1, k1⟩, by simp [k2], List.Sublist.append g2 k3, ?_, ?_⟩
      · intro b hb
        simp only [List.mem_append] at hb ⊢
        rcases hb with hb | hb
        · rcases g3 b hb with hx | hx <;> simp [hx]
        · rcases k4 b hb with hx | hx <;> simp [hx]
      · intro b hb hb'
        simp only [List.mem_append] at hb hb'
        rcases hb with hb | hb <;> rcases hb' with hb' | hb'
        · exact g4 b hb hb'
        · rcases k4 b hb' with hx | hx
          · exact hnd.2.2 b (g2.subset hb) b hx rfl
          · exact hur b (by simp [g2.subset hb]) (by simp [hx])
        · rcases g3 b hb' with hx | hx
          · exact hnd.2.2 b hx b (k3.subset hb) rfl
          · exact hur b (by simp [k3.subset hb]) (by simp [hx])
        · exact k5 b hb hb'

end
end Go.Vm

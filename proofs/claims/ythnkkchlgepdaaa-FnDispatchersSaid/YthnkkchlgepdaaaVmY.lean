/- What a call of the evaluator Vm hands over: all arguments. Own work; lemmas. No condition. -/
import Derived.Test.YthnkkchlgepdaaaVmX
namespace Go.Vm
open Go.RowKit
set_option linter.unusedVariables false

section
variable {P : Program} {w : World} {env : Env} {tmps : Array Value} {Of Rf : Nat → List Nat} {o : Oper} {d : Nat}

theorem passOne_ok {e0 : Env} {Of0 Rf0 : Nat → List Nat} (h : Rel w e0 tmps Of0 Rf0) {ws0 Oa Ra : List Nat} (k : Tk w tmps e0 Of0 Rf0 env Of Rf ws0 Oa Ra) {pr : Par} {v : V} {x : Value} {R' : List Nat}
    (hs : SlotOk w e0 tmps v x [] R') (hR : ∀ b ∈ R', ∃ s, b ∈ Rf0 s) {p : Pass} (hp : passOne e0 env pr v = some p) (hnd : (p.back.map Back.s).Nodup) :
    ∃ Os Rs O1 R1 Of1 Rf1, ParRep w pr p.data x Os Rs ∧ Tk w tmps e0 Of0 Rf0 p.env Of1 Rf1 (ws0 ++ p.ws) (Oa ++ O1) (Ra ++ R1) ∧ Os.Nodup ∧ (∀ b ∈ Os, b ∈ O1 ∨ b ∈ OfAll Of0 (p.back.map Back.s)) ∧
      (∀ b ∈ Rs, b ∈ R1 ∨ b ∈ O1 ∨ b ∈ OfAll Of0 (p.back.map Back.s) ∨ b ∈ OfAll Of0 p.bor ∨ ∃ s, b ∈ Rf0 s) ∧ (∀ b ∈ Os, b ∉ Rs) := by
  unfold passOne at hp
  split at hp
  · rename_i t a
    cases hpl : a.plain with
    | true =>
      simp only [hpl, cond_true, Option.map_eq_some_iff] at hp
      obtain ⟨q, hq, rfl⟩ := hp
      obtain ⟨cs, R, hk, hr, hb⟩ := passVal_ok h hs hR hq
      exact ⟨[], R, [], [], Of, Rf, ⟨q.1, cs, rfl, hk, hr.of_ro hpl⟩, by simpa using k, by simp, by simp, fun b hb' => (hb b hb').elim (fun hx => .inr (.inr (.inr (.inl hx)))) fun hx => .inr (.inr (.inr (.inr hx))), by simp⟩
    | false =>
      simp only [hpl, cond_false, Option.bind_eq_some_iff] at hp
      obtain ⟨q, hq, hp⟩ := hp
      cases hc : q.a.coe a with
      | false => simp [hc] at hp
      | true =>
        simp only [hc, cond_true, Option.some.injEq] at hp
        subst hp
        obtain ⟨cs, O1, R1, Of1, Rf1, hk, hr, hk1⟩ := takeV_gen h k hs hR hq
        have hcl := Tk.clean h hk1
        have hnd1 := (List.nodup_append.1 hk1.nd).2.1
        obtain ⟨O', R2, g1, g2, g3, g4⟩ := hr.coe hc hnd1 (fun b hb hr => hcl.2.1 b (by simp [hb]) (by simp [hr]))
        exact ⟨O', R2, O1, R1, Of1, Rf1, ⟨q.x, cs, rfl, hk, g1⟩, hk1, g2.nodup hnd1, fun b hb => .inl (g2.subset hb), fun b hb => (g3 b hb).elim (fun hx => .inr (.inl hx)) .inl, g4⟩
  · rename_i t a
    split at hp
    · rename_i l
      simp only [Option.map_eq_some_iff] at hp
      obtain ⟨q, hq, rfl⟩ := hp
      obtain ⟨Os, Rs, h1, h2, h3, h4, h5, h6⟩ := capBoxes_ok h [(t, a)] [l] [x] hq (by intro j l' hj; cases j with | zero => simp at hj; subst hj; exact ⟨x, by simp, hs.2.2⟩ | succ j => simp at hj) rfl hnd
      refine ⟨Os, Rs, [], [], Of, Rf, ?_, by simpa using k, h3, fun b hb => .inr (h4 b hb), fun b hb => (h5 b hb).elim (fun hx => .inr (.inr (.inl hx))) fun hx => .inr (.inr (.inr (.inr hx))), h6⟩
      match hq1 : q.1, h2, h1 with
      | [⟨t', y⟩], h2, h1 =>
        simp at h2
        subst h2
        obtain ⟨c1, c2, O1, O2, R1, R2, hc, rfl, rfl, hb1, hb2⟩ := h1
        obtain ⟨rfl, rfl, rfl⟩ := hb2
        simp at hc
        subst hc
        exact ⟨y, rfl, by simpa using hb1⟩
      | [], h2, h1 => simp at h2
      | _ :: _ :: _, h2, h1 => simp at h2
    · cases hp
  · rename_i e el a
    split at hp
    · rename_i l
      cases hc : freshR e0 l && l.st.isEmpty && (l.off == 0) with
      | false => simp [hc] at hp
      | true =>
        simp only [hc, cond_true] at hp
        simp only [Bool.and_eq_true, beq_iff_eq] at hc
        split at hp
        · rename_i u f b xs hv
          simp only [Option.bind_eq_some_iff] at hp
          obtain ⟨q, hq, hp⟩ := hp
          obtain ⟨he, rfl⟩ := Dat.as_mk hq
          cases he
          cases hco : (An.own f b).coe (.own el a) with
          | false => simp [hco] at hp
          | true =>
            simp only [hco, cond_true, Option.some.injEq] at hp
            subst hp
            have hsl := h.slot l.s
            rw [hv] at hsl
            obtain ⟨cs, hk, hr⟩ := hsl
            have hcs : cs = [tv tmps l.s] := hk
            subst hcs
            have hxv : x = tv tmps l.s := by
              obtain ⟨cs1, bk, hd, hloc, hcell, -, hx⟩ := hs.2.2.2 hc.1.1
              unfold locOf at hloc
              have hst : l.st = [] := by simpa using hc.1.2
              have hob : obj w (get e0 l.s).v (tv tmps l.s) = some (⟨.sl e, .own f b, xs⟩, [tv tmps l.s], none) := by
                rw [hv]
                have hun : unpack (tv tmps l.s) = [tv tmps l.s] := Packed.unpack (t := .sl e) rfl hr
                cases hxx : tv tmps l.s <;> (simp only [obj]; rw [← hxx, hun])
              rw [hob] at hloc
              simp only [hst, loc, Option.some.injEq, Prod.mk.injEq] at hloc
              obtain ⟨rfl, -⟩ := hloc
              rw [hc.2] at hcell
              simp at hcell
              rw [hx, ← hcell]; rfl
            obtain ⟨O', R2, g1, g2, g3, g4⟩ := hr.coe hco (h.nodup l.s) (fun b hb => h.unread l.s l.s b hb)
            refine ⟨O', R2, [], [], Of, Rf, ⟨xs, rfl, by rw [hxv]; exact g1⟩, by simpa using k, g2.nodup (h.nodup l.s), fun b hb => .inr (by simpa [OfAll, Back.s] using g2.subset hb), fun b hb => ?_, g4⟩
            rcases g3 b hb with hx | hx
            · exact .inr (.inr (.inl (by simpa [OfAll, Back.s] using hx)))
            · exact .inr (.inr (.inr (.inr ⟨_, hx⟩)))
        · cases hp
    · cases hp
  · rename_i f caps
    split at hp
    · rename_i g ls
      cases hg : (g == f) with
      | false => simp [hg] at hp
      | true =>
        simp only [hg, cond_true, Option.map_eq_some_iff] at hp
        have : g = f := by simpa using hg
        subst this
        obtain ⟨q, hq, rfl⟩ := hp
        obtain ⟨-, -, vs, rfl, hlen, hj⟩ := hs
        obtain ⟨Os, Rs, h1, h2, h3, h4, h5, h6⟩ := capBoxes_ok h caps ls vs hq hj hlen hnd
        exact ⟨Os, Rs, [], [], Of, Rf, ⟨vs, rfl, h2, h1⟩, by simpa using k, h3, fun b hb => .inr (h4 b hb), fun b hb => (h5 b hb).elim (fun hx => .inr (.inr (.inl hx))) fun hx => .inr (.inr (.inr (.inr hx))), h6⟩
    · rename_i s t
      cases hver : Nat.ble (get e0 s).ver t with
      | false => simp [hver] at hp
      | true =>
        simp only [hver, cond_true] at hp
        split at hp
        · rename_i g ds hv
          cases hg : (g == f) with
          | false => simp [hg] at hp
          | true =>
            simp only [hg, cond_true, Option.map_eq_some_iff] at hp
            have : g = f := by simpa using hg
            subst this
            obtain ⟨q, hq, rfl⟩ := hp
            have hx : x = tv tmps s := hs.2.2.2 (Nat.le_of_ble_eq_true hver)
            have hsl := h.slot s
            rw [hv] at hsl
            obtain ⟨vs, hxx, hl⟩ := hsl
            obtain ⟨O', R2, g1, g2, g3, g4, g5⟩ := capDats_ok caps ds vs hq hl (h.nodup s) (fun b hb => h.unread s s b hb)
            refine ⟨O', R2, [], [], Of, Rf, ⟨vs, by rw [hx, hxx], g2, g1⟩, by simpa using k, g3.nodup (h.nodup s), fun b hb => .inr (by simpa [OfAll, Back.s] using g3.subset hb), fun b hb => ?_, g5⟩
            rcases g4 b hb with hx | hx
            · exact .inr (.inr (.inl (by simpa [OfAll, Back.s] using hx)))
            · exact .inr (.inr (.inr (.inr ⟨_, hx⟩)))
        · cases hp
    · cases hp

theorem passAll_ok {e0 : Env} {Of0 Rf0 : Nat → List Nat} (h : Rel w e0 tmps Of0 Rf0) : ∀ (pars : List Par) (vals : List Value) (args : List V) {env : Env} {Of Rf : Nat → List Nat} {ws0 Oa Ra : List Nat} (k : Tk w tmps e0 Of0 Rf0 env Of Rf ws0 Oa Ra)
    (hargs : ∀ (j : Nat) (v : V), args[j]? = some v → ∃ x R', vals[j]? = some x ∧ SlotOk w e0 tmps v x [] R' ∧ ∀ b ∈ R', ∃ s, b ∈ Rf0 s) (hlen : vals.length = args.length) {p : Pass} (hp : passAll e0 env pars args = some p)
    (hnd : (p.back.map Back.s).Nodup) (hb1 : ∀ s ∈ p.back.map Back.s, s ∉ ws0 ++ p.ws) (hb2 : ∀ s ∈ p.back.map Back.s, s ∉ p.bor) (hb3 : ∀ s ∈ p.bor, s ∉ ws0 ++ p.ws),
    ∃ Os Rs O1 R1 Of1 Rf1, ArgsRep w pars p.data vals Os Rs ∧ Tk w tmps e0 Of0 Rf0 p.env Of1 Rf1 (ws0 ++ p.ws) (Oa ++ O1) (Ra ++ R1) ∧ Os.Nodup ∧ (∀ b ∈ Os, b ∈ O1 ∨ b ∈ OfAll Of0 (p.back.map Back.s)) ∧
      (∀ b ∈ Rs, b ∈ R1 ∨ b ∈ O1 ∨ b ∈ OfAll Of0 (p.back.map Back.s) ∨ b ∈ OfAll Of0 p.bor ∨ ∃ s, b ∈ Rf0 s) ∧ (∀ b ∈ Os, b ∉ Rs) := by
  intro pars
  induction pars with
  | nil =>
    intro vals args env Of Rf ws0 Oa Ra k hargs hlen p hp hnd hb1 hb2 hb3
    cases args with
    | cons a as => simp [passAll] at hp
    | nil =>
      simp [passAll] at hp
      subst hp
      have : vals = [] := List.eq_nil_of_length_eq_zero hlen
      subst this
      exact ⟨[], [], [], [], Of, Rf, ⟨rfl, rfl, rfl, rfl⟩, by simpa using k, by simp, by simp, by simp, by simp⟩
  | cons pr pars ih =>
    intro vals args env Of Rf ws0 Oa Ra k hargs hlen p hp hnd hb1 hb2 hb3
    cases args with
    | nil => simp [passAll] at hp
    | cons v args =>
      cases vals with
      | nil => simp at hlen
      | cons x vals =>
        simp only [passAll, Option.bind_eq_some_iff, Option.map_eq_some_iff] at hp
        obtain ⟨a, ha, b, hb, rfl⟩ := hp
        simp only [List.map_append] at hnd hb1 hb2
        rw [List.nodup_append] at hnd
        obtain ⟨x', R', hx', hs, hR⟩ := hargs 0 v rfl
        simp at hx'
        subst hx'
        obtain ⟨Os, Rs, O1, R1, Of1, Rf1, h1, k1, h2, h3, h4, h5⟩ := passOne_ok h k hs hR ha hnd.1
        obtain ⟨Os', Rs', O2, R2, Of2, Rf2, g1, k2, g2, g3, g4, g5⟩ := ih vals args k1 (fun j v hj => by simpa using hargs (j + 1) v (by simpa using hj)) (by simpa using hlen) hb hnd.2.1
          (fun s hs => by have := hb1 s (by simp only [List.mem_append]; exact .inr hs); simpa [List.append_assoc] using this)
          (fun s hs hbor => hb2 s (by simp only [List.mem_append]; exact .inr hs) (by simp [hbor])) (fun s hs => by have := hb3 s (by simp [hs]); simpa [List.append_assoc] using this)
        have hcl := Tk.clean h k2
        -- what was moved out is none of the slots' that were left alone
        have sepM : ∀ b', b' ∈ O1 ∨ b' ∈ O2 → ∀ ss : List Nat, (∀ s ∈ ss, s ∉ ws0 ++ (a.ws ++ b.ws)) → b' ∉ OfAll Of0 ss := by
          intro b' hb' ss hss hm
          obtain ⟨s, hs, hm⟩ := mem_OfAll.1 hm
          have h1 := k2.gone b' (by simp only [List.mem_append]; grind) s
          rw [(k2.out s (by simpa [List.append_assoc] using hss s hs)).2.1] at h1
          exact h1 hm
        have readM : ∀ b', b' ∈ O1 ∨ b' ∈ O2 → ¬ ∃ s, b' ∈ Rf0 s := by
          rintro b' hb' ⟨s, hs⟩
          obtain ⟨s', hs'⟩ := k2.fromO b' (by simp only [List.mem_append]; grind)
          exact h.unread s' s b' hs' hs
        have readS : ∀ b' ss, b' ∈ OfAll Of0 ss → ¬ ∃ s, b' ∈ Rf0 s := by
          rintro b' ss hb' ⟨s, hs⟩
          obtain ⟨s', -, hs'⟩ := mem_OfAll.1 hb'
          exact h.unread s' s b' hs' hs
        have isR : ∀ b', b' ∈ R1 ∨ b' ∈ R2 → ∃ s, b' ∈ Rf0 s := fun b' hb' => k2.fromR b' (by simp only [List.mem_append]; grind)
        have sepS : ∀ b' (ss ss' : List Nat), (∀ s ∈ ss, s ∉ ss') → b' ∈ OfAll Of0 ss → b' ∉ OfAll Of0 ss' := by
          intro b' ss ss' hd hb' hb''
          obtain ⟨s, hs, hm⟩ := mem_OfAll.1 hb'
          obtain ⟨s', hs', hm'⟩ := mem_OfAll.1 hb''
          exact h.apart s s' b' (fun e => hd s hs (e ▸ hs')) hm hm'
        have dis : ∀ b', b' ∈ O1 → b' ∉ O2 := by
          intro b' hb' hb''
          have := k2.nd
          rw [List.nodup_append] at this
          exact this.2.2 b' (by simp [hb']) b' hb'' rfl
        have bkA : ∀ s ∈ a.back.map Back.s, s ∉ ws0 ++ (a.ws ++ b.ws) := fun s hs => hb1 s (by simp only [List.mem_append]; exact .inl hs)
        have bkB : ∀ s ∈ b.back.map Back.s, s ∉ ws0 ++ (a.ws ++ b.ws) := fun s hs => hb1 s (by simp only [List.mem_append]; exact .inr hs)
        have brA : ∀ s ∈ a.bor, s ∉ ws0 ++ (a.ws ++ b.ws) := fun s hs => hb3 s (by simp [hs])
        have brB : ∀ s ∈ b.bor, s ∉ ws0 ++ (a.ws ++ b.ws) := fun s hs => hb3 s (by simp [hs])
        have bkd : ∀ s ∈ a.back.map Back.s, s ∉ b.back.map Back.s := fun s hs hs' => hnd.2.2 s hs s hs' rfl
        refine ⟨Os ++ Os', Rs ++ Rs', O1 ++ O2, R1 ++ R2, Of2, Rf2, ⟨a.data, b.data, x, vals, Os, Os', Rs, Rs', rfl, rfl, rfl, rfl, h1, g1⟩, by simpa [List.append_assoc] using k2, ?_, ?_, ?_, ?_⟩
        · rw [List.nodup_append]
          refine ⟨h2, g2, fun y hy z hz e => ?_⟩
          subst e
          rcases h3 y hy with hy | hy <;> rcases g3 y hz with hz | hz
          · exact dis y hy hz
          · exact sepM y (.inl hy) _ bkB hz
          · exact sepM y (.inr hz) _ bkA hy
          · exact sepS y _ _ bkd hy hz
        · intro y hy
          simp only [List.map_append, OfAll_append, List.mem_append] at hy ⊢
          rcases hy with hy | hy
          · rcases h3 y hy with hz | hz <;> simp [hz]
          · rcases g3 y hy with hz | hz <;> simp [hz]
        · intro y hy
          simp only [List.map_append, OfAll_append, List.mem_append] at hy ⊢
          rcases hy with hy | hy
          · rcases h4 y hy with hz | hz | hz | hz | hz <;> simp [hz]
          · rcases g4 y hy with hz | hz | hz | hz | hz <;> simp [hz]
        · intro y hy hy'
          simp only [List.mem_append] at hy hy'
          rcases hy with hy | hy <;> rcases hy' with hy' | hy'
          · exact h5 y hy hy'
          · rcases h3 y hy with hz | hz <;> rcases g4 y hy' with hu | hu | hu | hu | hu
            · exact readM y (.inl hz) (isR y (.inr hu))
            · exact dis y hz hu
            · exact sepM y (.inl hz) _ bkB hu
            · exact sepM y (.inl hz) _ brB hu
            · exact readM y (.inl hz) hu
            · exact readS y _ hz (isR y (.inr hu))
            · exact sepM y (.inr hu) _ bkA hz
            · exact sepS y _ _ bkd hz hu
            · exact sepS y _ _ (fun s hs hs' => hb2 s (by simp only [List.mem_append]; exact .inl hs) (by simp [hs'])) hz hu
            · exact readS y _ hz hu
          · rcases g3 y hy with hz | hz <;> rcases h4 y hy' with hu | hu | hu | hu | hu
            · exact readM y (.inr hz) (isR y (.inl hu))
            · exact dis y hu hz
            · exact sepM y (.inr hz) _ bkA hu
            · exact sepM y (.inr hz) _ brA hu
            · exact readM y (.inr hz) hu
            · exact readS y _ hz (isR y (.inl hu))
            · exact sepM y (.inl hu) _ bkB hz
            · exact sepS y _ _ (fun s hs hs' => bkd s hs' hs) hz hu
            · exact sepS y _ _ (fun s hs hs' => hb2 s (by simp only [List.mem_append]; exact .inr hs) (by simp [hs'])) hz hu
            · exact readS y _ hz hu
          · exact g5 y hy hy'

end
end Go.Vm

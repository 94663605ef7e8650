/- A CALL of the evaluator Vm is the machine's. Own work; lemmas. No condition. -/
import Derived.Test.YthnkkchlgepdaaaVmZc
namespace Go.Vm
open Go.RowKit
set_option linter.unusedVariables false

section
variable {P : Program} {w : World} {env : Env} {tmps : Array Value} {Of Rf : Nat → List Nat} {o : Oper} {d : Nat}

theorem ArgsRep.types : ∀ (ps : List Par) {ds : List (Σ t : Ty, t.den)} {vs : List Value} {O R : List Nat}, ArgsRep w ps ds vs O R → ds.map (·.1) = ps.flatMap Par.inT
  | [], ds, vs, O, R, h => by obtain ⟨rfl, -⟩ := h; rfl
  | p :: ps, ds, vs, O, R, h => by
    obtain ⟨d1, d2, v, vs', O1, O2, R1, R2, rfl, rfl, rfl, rfl, h1, h2⟩ := h
    rw [List.map_append, List.flatMap_cons, ArgsRep.types ps h2]
    congr 1
    cases p with
    | val t a => obtain ⟨x, cs, rfl, -⟩ := h1; rfl
    | io t a => obtain ⟨x, rfl, -⟩ := h1; rfl
    | iol e el a => obtain ⟨x, rfl, -⟩ := h1; rfl
    | fn f caps => obtain ⟨vs, -, h, -⟩ := h1; exact h

theorem RepL.noRD {f : Dat → List Value → List Nat → List Nat → Prop} (hf : ∀ (d : Dat) c O R, f d c O R → d.t.hasRo d.a = false → R = []) : ∀ (cs : List (Ty × An)) (ds : List (Σ t : Ty, t.den)) {vs : List Value} {O R : List Nat},
    RepL f (toDats cs ds) vs O R → ds.map (·.1) = cs.map (·.1) → (cs.any fun c => c.1.hasRo c.2) = false → R = []
  | [], ds, vs, O, R, h, hd, ha => by
    have : toDats [] ds = [] := by cases ds <;> rfl
    rw [this] at h
    exact h.2.2
  | c :: cs, [], vs, O, R, h, hd, ha => by simp at hd
  | (t, a) :: cs, ⟨u, x⟩ :: ds, vs, O, R, h, hd, ha => by
    simp only [List.map_cons, List.cons.injEq] at hd
    obtain ⟨rfl, hd⟩ := hd
    obtain ⟨c1, c2, O1, O2, R1, R2, rfl, rfl, rfl, h1, h2⟩ := h
    simp only [List.any_cons, Bool.or_eq_false_iff] at ha
    rw [hf _ _ _ _ h1 ha.1, RepL.noRD hf cs ds h2 hd ha.2]; rfl

theorem RepBox.noR {u : Dat} {c : List Value} {O R : List Nat} (h : RepBox w u c O R) (hr : u.t.hasRo u.a = false) : R = [] := by
  obtain ⟨b, C, el, O', -, -, h, -⟩ := h
  exact h.noR hr

theorem OutsRep.noR : ∀ (ps : List Par) {ds : List (Σ t : Ty, t.den)} {vs : List Value} {O R : List Nat}, OutsRep w ps ds vs O R → ps.any Par.outRo = false → R = []
  | [], ds, vs, O, R, h, _ => h.2.2.2
  | p :: ps, ds, vs, O, R, h, ha => by
    obtain ⟨d1, d2, v, vs', O1, O2, R1, R2, rfl, rfl, rfl, rfl, h1, h2⟩ := h
    simp only [List.any_cons, Bool.or_eq_false_iff] at ha
    rw [OutsRep.noR ps h2 ha.2, List.append_nil]
    cases p with
    | val t a => exact h1.2.2
    | io t a => obtain ⟨x, rfl, hx⟩ := h1; exact hx.noR ha.1
    | iol e el a => obtain ⟨x, rfl, hx⟩ := h1; exact Rep.noR (a := .own el a) (t := .sl e) hx ha.1
    | fn f caps => obtain ⟨vs, -, h, hl⟩ := h1; exact RepL.noRD (fun d c O R h hr => h.noR hr) caps d1 hl h ha.1

theorem ResRep.noR {rs : List (Ty × An)} {ds : List (Σ t : Ty, t.den)} {v : Value} {O R : List Nat} (h : ResRep w rs ds v O R) (ha : (rs.any fun r => r.1.hasRo r.2) = false) : R = [] := by
  unfold ResRep at h
  split at h
  · obtain ⟨x, cs, rfl, hk, hr⟩ := h
    simp at ha
    exact hr.noR ha
  · obtain ⟨vs, -, hd, hl⟩ := h
    exact RepL.noRD (fun d c O R ⟨x, cs, _, _, h⟩ hr => h.noR hr) _ ds hl hd ha

theorem resV_ok {rs : List (Ty × An)} {ds : List (Σ t : Ty, t.den)} {v : Value} {O R : List Nat} (h : ResRep w rs ds v O R) (hd : ds.map (·.1) = rs.map (·.1)) (e : Env) (tm : Array Value) : SlotOk w e tm (resV rs ds) v O R := by
  unfold ResRep at h
  split at h
  · obtain ⟨x, cs, rfl, hk, hr⟩ := h
    exact ⟨cs, hk, hr⟩
  · rename_i hne
    obtain ⟨vs, hv, -, hl⟩ := h
    have : resV rs ds = .tup (toDats rs ds) := by
      unfold resV
      split
      · rename_i t a t' x
        exact absurd rfl (hne _ _)
      · rfl
    rw [this]
    exact ⟨vs, hv, hl⟩

theorem unt_types : ∀ (ts : List Ty) (x : (tysOf ts).den), (unt ts x).map (·.1) = ts
  | [], _ => rfl
  | t :: ts, x => by simp only [unt, List.map_cons]; rw [unt_types ts x.2]

/-- what a call comes to -/
def CallOk (P : Program) (w : World) (env : Env) (tmps : Array Value) (Of Rf : Nat → List Nat) (d : Nat) (g : FuncId) (vals : List Value) (a : Act) : Prop :=
  match a with
  | .call g' sg x ws kf => g' = g ∧ ∀ Post, CallsT P g' sg x Post → Calls P g vals.toArray w fun e w' => ∃ v r oo Of' Rf', e = .returned v ∧ Post r oo ∧ Stp w env tmps Of Rf w' (kf r oo) (tmps.setIfInBounds d v) Of' Rf' ws
  | _ => True

theorem nodupB_ok : ∀ {l : List Nat}, nodupB l = true → l.Nodup
  | [], _ => List.nodup_nil
  | x :: l, h => by
    simp only [nodupB, Bool.and_eq_true, Bool.not_eq_true', List.contains_eq_mem, decide_eq_false_iff_not] at h
    exact List.nodup_cons.2 ⟨h.1, nodupB_ok h.2⟩

theorem OfAll_nodup {f : Nat → List Nat} : ∀ {ss : List Nat}, (OfAll f ss).Nodup → ∀ {s : Nat}, s ∈ ss → (f s).Nodup
  | a :: ss, h, s, hs => by
    simp only [OfAll] at h
    have := List.nodup_append.1 h
    rcases List.mem_cons.1 hs with rfl | hs
    · exact this.1
    · exact OfAll_nodup this.2.1 hs

theorem OfAll_disj {f : Nat → List Nat} : ∀ {ss : List Nat}, (OfAll f ss).Nodup → ∀ {s s' b : Nat}, s ∈ ss → s' ∈ ss → s ≠ s' → b ∈ f s → b ∉ f s'
  | a :: ss, h, s, s', b, hs, hs', hne, hb, hb' => by
    simp only [OfAll] at h
    have := List.nodup_append.1 h
    rcases List.mem_cons.1 hs with e | hs1
    · subst e
      rcases List.mem_cons.1 hs' with e' | hs2
      · exact hne e'.symm
      · exact this.2.2 b hb b (mem_OfAll.2 ⟨s', hs2, hb'⟩) rfl
    · rcases List.mem_cons.1 hs' with e' | hs2
      · subst e'
        exact this.2.2 b hb' b (mem_OfAll.2 ⟨s, hs1, hb⟩) rfl
      · exact OfAll_disj this.2.1 hs1 hs2 hne hb hb'

/-- what comes back speaks of no link -/
theorem SlotOk.env_any {e e' : Env} {tmps tmps' : Array Value} {v : V} {x : Value} {O R : List Nat} (h : SlotOk w e tmps v x O R) {b : Back} (hk : KindV b v) : SlotOk w e' tmps' v x O R := by
  cases b with
  | box s t a => obtain ⟨t, a, y, rfl⟩ := hk; exact h
  | row s t el a => obtain ⟨t, a, y, rfl⟩ := hk; exact h
  | clo s f c => obtain ⟨f, ds, rfl⟩ := hk; exact h

theorem callAct_ok {S : SigTab} (h : Rel w env tmps Of Rf) (hd : d < env.length) {g : FuncId} {args : List V} {vals : List Value}
    (hargs : ∀ (j : Nat) (v : V), args[j]? = some v → ∃ x R', vals[j]? = some x ∧ SlotOk w env tmps v x [] R' ∧ ∀ b ∈ R', ∃ s, b ∈ Rf s) (hlen : vals.length = args.length) :
    CallOk P w env tmps Of Rf d g vals (callAct S env d g args) := by
  unfold callAct
  split
  · trivial
  rename_i sg hsg
  split
  · trivial
  rename_i p hp
  split
  case h_2 => trivial
  rename_i x htie
  generalize hfrz : (bif sg.res.any (fun r => r.1.hasRo r.2) || sg.pars.any Par.outRo then p.bor else []) = frz
  simp only
  cases hc : frz.all (fun s => (get p.env s).v.frz) && (p.bor.all (fun s => !p.ws.contains s) && nodupB (p.back.map Back.s) && p.back.all (fun b => !p.bor.contains b.s && !p.ws.contains b.s)) with
  | false => trivial
  | true =>
    simp only [cond_true]
    simp only [Bool.and_eq_true, List.all_eq_true, Bool.not_eq_true', List.contains_eq_mem, decide_eq_false_iff_not] at hc
    obtain ⟨hfz, ⟨hbw, hnd⟩, hbk⟩ := hc
    have hnd := nodupB_ok hnd
    have hfb : ∀ s ∈ frz, s ∈ p.bor := by
      intro s hs
      rw [← hfrz] at hs
      cases hb : (sg.res.any (fun r => r.1.hasRo r.2) || sg.pars.any Par.outRo) with
      | true => rw [hb] at hs; exact hs
      | false => rw [hb] at hs; simp at hs
    have hbk1 : ∀ s ∈ p.back.map Back.s, s ∉ p.ws := by
      intro s hs
      obtain ⟨b, hb, rfl⟩ := List.mem_map.1 hs
      exact (hbk b hb).2
    have hbk2 : ∀ s ∈ p.back.map Back.s, s ∉ p.bor := by
      intro s hs
      obtain ⟨b, hb, rfl⟩ := List.mem_map.1 hs
      exact (hbk b hb).1
    obtain ⟨Os, Rs, Om, Rm, Of1, Rf1, hA, k, hOs, hOsub, hRsub, hOR⟩ := passAll_ok h sg.pars vals args (Tk.none h (R1 := []) (by simp)) hargs hlen hp hnd (by simpa using hbk1) hbk2 (by simpa using hbw)
    simp only [List.nil_append] at k
    have hbacks := passAll_backs h sg.pars vals args hargs hlen hp
    have hkinds := passAll_kinds sg.pars args hp
    have hdl : p.data.length = (sg.pars.flatMap Par.inT).length := by
      have := congrArg List.length (ArgsRep.types sg.pars hA)
      simpa using this
    have hunt := unt_tie _ _ x htie hdl
    refine ⟨rfl, fun Post hcall => ?_⟩
    refine (hcall w vals Os Rs (by rw [hunt]; exact hA) hOs hOR).mono fun e w' => ?_
    rintro ⟨v, r, oo, O1, R1, O2, R2, rfl, hPost, hres, houts, hndO, hdis, hOin, hRin, hblk, hW⟩
    have hcl := Tk.clean h k
    -- the slots that get something back
    have hbl : ∀ s ∈ p.back.map Back.s, s < p.env.length := by
      intro s hs
      obtain ⟨b, hb, rfl⟩ := List.mem_map.1 hs
      rw [k.len]
      refine get_lt ?_
      have := hkinds b hb
      cases b with
      | box s t a => obtain ⟨t, a, x, hx⟩ := this; rw [show (Back.box s _ _).s = s from rfl, hx]; simp
      | row s e el a => obtain ⟨t, a, x, hx⟩ := this; rw [show (Back.row s e el _).s = s from rfl, hx]; simp
      | clo s f caps => obtain ⟨f', ds, hx⟩ := this; rw [show (Back.clo s f caps).s = s from rfl, hx]; simp
    obtain ⟨Ob, Rb, hO2, hR2, g1, g2, g3⟩ := giveBack_ok p.back (env := p.env) (backRep_of _ _ _ hbacks houts) hnd hbl
    generalize hE1 : giveBack p.env p.back (unt (sg.pars.flatMap Par.outT) oo) = e1 at g1 g2 g3 ⊢
    have hfl : ∀ s ∈ frz, s < e1.length := by
      intro s hs
      rw [g1]
      refine get_lt fun e => ?_
      have := hfz s hs
      rw [e] at this; simp [V.frz] at this
    have hf1 : ∀ s ∈ frz, get e1 s = get p.env s := fun s hs => g2 s fun hb => hbk2 s hb (hfb s hs)
    obtain ⟨f1, f2, f3⟩ := freezeAll_ok frz (env := e1) hfl (fun s hs => by rw [hf1 s hs]; exact hfz s hs)
    generalize hE2 : freezeAll e1 frz = e2 at f1 f2 f3 ⊢
    have hd2 : d < e2.length := by rw [f1, g1, k.len]; exact hd
    have hdt : d < tmps.size := by rw [h.size]; exact hd
    have hg : ∀ s, get (e2.set d ((get e2 d).fresh (resV sg.res (unt (sg.res.map (·.1)) r)))) s = if s = d then (get e2 d).fresh (resV sg.res (unt (sg.res.map (·.1)) r)) else get e2 s := fun s => get_set _ _ _ _ hd2
    have ht : ∀ s, tv (tmps.setIfInBounds d v) s = if s = d then v else tv tmps s := fun s => tmps_set _ _ _ _ hdt
    -- what the frozen slots read
    have hfro : ∀ s, ∃ R', s ∈ frz → (∀ e, SlotOk w e tmps (fzV (get p.env s).v) (tv tmps s) [] R') ∧ (∀ b ∈ R', b ∈ Of1 s ∨ b ∈ Rf1 s) ∧ ∀ D cs bk, obj w (get p.env s).v (tv tmps s) = some (D, cs, bk) → ∃ D', obj w (fzV (get p.env s).v) (tv tmps s) = some (D', cs, bk) := by
      intro s
      by_cases hs : s ∈ frz
      · obtain ⟨R', q1, q2, q3⟩ := slot_frozen (k.rel.slot s) (hfz s hs)
        exact ⟨R', fun _ => ⟨q1, q2, q3⟩⟩
      · exact ⟨[], fun hx => absurd hx hs⟩
    obtain ⟨Rz, hRz⟩ := Classical.axiomOfChoice hfro
    have hB : ∀ s ∈ p.back.map Back.s, get p.env s = get env s ∧ Of1 s = Of s ∧ Rf1 s = Rf s := fun s hs => k.out s (hbk1 s hs)
    have hOs1 : ∀ b ∈ Os, b ∈ Om ∨ ∃ s ∈ p.back.map Back.s, b ∈ Of1 s := by
      intro b hb
      rcases hOsub b hb with h1 | h1
      · exact .inl h1
      · obtain ⟨s, hs, hb'⟩ := mem_OfAll.1 h1
        exact .inr ⟨s, hs, by rw [(hB s hs).2.1]; exact hb'⟩
    have K1 : ∀ s b, s ∉ p.back.map Back.s → b ∈ Of1 s ∨ b ∈ Rf1 s → b ∉ Os := by
      intro s b hs hb hbO
      rcases hOs1 b hbO with h1 | ⟨s', hs', h1⟩
      · rcases hb with hb | hb
        · exact k.gone b h1 s hb
        · exact hcl.1 b h1 s hb
      · rcases hb with hb | hb
        · exact k.rel.apart s' s b (fun e => hs (e ▸ hs')) h1 hb
        · exact k.rel.unread s' s b h1 hb
    have K2 : ∀ s b, s ∉ p.back.map Back.s → b ∈ Of1 s ∨ b ∈ Rf1 s → b ∉ O1 ++ O2 := by
      intro s b hs hb hbO
      rcases hOin b hbO with h1 | h1
      · exact K1 s b hs hb h1
      · exact absurd (k.rel.lt hb) (by omega)
    have K3 : ∀ s b, s ∉ p.back.map Back.s → b ∈ Of1 s ∨ b ∈ Rf1 s → w'.heap[b]? = w.heap[b]? := fun s b hs hb => hblk b (k.rel.lt hb) (K1 s b hs hb)
    have hfnb : ∀ s ∈ frz, s ∉ p.back.map Back.s := fun s hs hb => hbk2 s hb (hfb s hs)
    have e2b : ∀ s ∈ p.back.map Back.s, get e2 s = get e1 s := fun s hs => f2 s fun hf => hfnb s hf hs
    have nowle : ∀ s, (get p.env s).now ≤ (get e2 s).now := by
      intro s
      by_cases hs : s ∈ frz
      · have := (f3 s hs).2.2.2
        rw [hf1 s hs] at this; exact this
      · rw [f2 s hs]
        by_cases hs' : s ∈ p.back.map Back.s
        · obtain ⟨b, hb, rfl⟩ := List.mem_map.1 hs'
          obtain ⟨v', q1, -⟩ := g3 b hb
          rw [q1]; simp only [Slot.form]; omega
        · rw [g2 s hs']; exact Nat.le_refl _
    generalize hE3 : e2.set d ((get e2 d).fresh (resV sg.res (unt (sg.res.map (·.1)) r))) = e3 at hg ⊢
    generalize hT3 : tmps.setIfInBounds d v = tmps' at ht ⊢
    have hturn : ∀ s, Turn w p.env tmps Of1 w' e3 tmps' s := by
      intro s
      by_cases hsd : s = d
      · right; left
        rw [hg, if_pos hsd]
        have := nowle s
        subst hsd
        simp only [Slot.fresh]
        omega
      by_cases hsb : s ∈ p.back.map Back.s
      · right; right
        rw [hg, if_neg hsd, ht, if_neg hsd, e2b s hsb]
        obtain ⟨b, hb, rfl⟩ := List.mem_map.1 hsb
        obtain ⟨v', q1, q2, q3⟩ := g3 b hb
        rw [q1]
        simp only [Slot.form]
        refine ⟨by omega, by omega, trivial, trivial, ?_⟩
        intro D cs bk hob
        rw [(hB _ hsb).1] at hob
        have hk := hkinds b hb
        cases b with
        | box s t a =>
          obtain ⟨t1, a1, x1, hx1⟩ := hk
          obtain ⟨t2, a2, x2, rfl⟩ := q3
          simp only [Back.s] at hob ⊢
          rw [hx1] at hob
          cases hx : tv tmps s <;> rw [hx] at hob <;> simp only [obj] at hob <;> try (cases hob)
          rename_i pp
          cases pp with
          | none => simp only [obj] at hob; cases hob
          | some pp =>
            simp only [obj, Option.some.injEq, Prod.mk.injEq] at hob
            obtain ⟨-, -, rfl⟩ := hob
            exact ⟨_, _, rfl⟩
        | row s e el a =>
          obtain ⟨t1, a1, x1, hx1⟩ := hk
          obtain ⟨t2, a2, x2, rfl⟩ := q3
          simp only [Back.s] at hob ⊢
          rw [hx1] at hob
          cases hx : tv tmps s <;> rw [hx] at hob <;> simp only [obj, Option.some.injEq, Prod.mk.injEq] at hob ⊢ <;> (obtain ⟨-, -, rfl⟩ := hob; exact ⟨_, _, rfl, rfl, rfl⟩)
        | clo s f caps =>
          obtain ⟨f1, ds1, hx1⟩ := hk
          simp only [Back.s] at hob
          rw [hx1] at hob
          cases hx : tv tmps s <;> rw [hx] at hob <;> simp only [obj] at hob <;> cases hob
      by_cases hsf : s ∈ frz
      · right; right
        rw [hg, if_neg hsd, ht, if_neg hsd]
        obtain ⟨q1, q2, q3, q4⟩ := f3 s hsf
        rw [hf1 s hsf] at q1 q2 q3 q4
        refine ⟨q3, q4, q2, rfl, ?_⟩
        intro D cs bk hob
        obtain ⟨z1, z2, z3⟩ := hRz s hsf
        obtain ⟨D', hD'⟩ := z3 D cs bk hob
        refine ⟨D', cs, ?_⟩
        rw [q1, obj_frame (z1 e3) (by simp)]
        exact hD'
      · left
        rw [hg, if_neg hsd, ht, if_neg hsd, f2 s hsf, g2 s hsb]
        exact ⟨rfl, rfl, fun b hb => K3 s b hsb (.inl hb)⟩
    have hlk := links_gen k.rel hturn
    refine ⟨v, r, oo, fun s => if s = d then O1 else if s ∈ p.back.map Back.s then Ob s else if s ∈ frz then [] else Of1 s,
      fun s => if s = d then R1 else if s ∈ p.back.map Back.s then Rb s else if s ∈ frz then Rz s else Rf1 s, rfl, hPost, ?_⟩
    simp only [hE1, hE2, hE3, hT3]
    generalize hOf2 : (fun s => if s = d then O1 else if s ∈ p.back.map Back.s then Ob s else if s ∈ frz then [] else Of1 s) = Of2
    generalize hRf2 : (fun s => if s = d then R1 else if s ∈ p.back.map Back.s then Rb s else if s ∈ frz then Rz s else Rf1 s) = Rf2
    have Od : Of2 d = O1 := by rw [← hOf2]; simp
    have Ob' : ∀ s, s ≠ d → s ∈ p.back.map Back.s → Of2 s = Ob s := by intro s h1 h2; rw [← hOf2]; simp only [if_neg h1, if_pos h2]
    have Ofr : ∀ s, s ≠ d → s ∈ frz → Of2 s = [] := by intro s h1 h2; rw [← hOf2]; simp only [if_neg h1, if_neg (hfnb s h2), if_pos h2]
    have Oel : ∀ s, s ≠ d → s ∉ p.back.map Back.s → s ∉ frz → Of2 s = Of1 s := by intro s h1 h2 h3; rw [← hOf2]; simp only [if_neg h1, if_neg h2, if_neg h3]
    have Rd : Rf2 d = R1 := by rw [← hRf2]; simp
    have Rb' : ∀ s, s ≠ d → s ∈ p.back.map Back.s → Rf2 s = Rb s := by intro s h1 h2; rw [← hRf2]; simp only [if_neg h1, if_pos h2]
    have Rfr : ∀ s, s ≠ d → s ∈ frz → Rf2 s = Rz s := by intro s h1 h2; rw [← hRf2]; simp only [if_neg h1, if_neg (hfnb s h2), if_pos h2]
    have Rel' : ∀ s, s ≠ d → s ∉ p.back.map Back.s → s ∉ frz → Rf2 s = Rf1 s := by intro s h1 h2 h3; rw [← hRf2]; simp only [if_neg h1, if_neg h2, if_neg h3]
    clear hOf2 hRf2
    -- which slots are new
    have inO : ∀ s b, (s = d ∨ s ∈ p.back.map Back.s) → b ∈ Of2 s → b ∈ O1 ++ O2 := by
      intro s b hs hb
      by_cases e : s = d
      · subst e; rw [Od] at hb; exact List.mem_append.2 (.inl hb)
      · rcases hs with hs | hs
        · exact absurd hs e
        · rw [Ob' s e hs] at hb
          exact List.mem_append.2 (.inr (by rw [hO2]; exact mem_OfAll.2 ⟨s, hs, hb⟩))
    have inR : ∀ s b, (s = d ∨ s ∈ p.back.map Back.s) → b ∈ Rf2 s → b ∈ R1 ++ R2 := by
      intro s b hs hb
      by_cases e : s = d
      · subst e; rw [Rd] at hb; exact List.mem_append.2 (.inl hb)
      · rcases hs with hs | hs
        · exact absurd hs e
        · rw [Rb' s e hs] at hb
          exact List.mem_append.2 (.inr (by rw [hR2]; exact mem_OfAll.2 ⟨s, hs, hb⟩))
    have cls : ∀ s, (s = d ∨ s ∈ p.back.map Back.s) ∨ (s ≠ d ∧ s ∈ frz ∧ s ∉ p.back.map Back.s) ∨ (s ≠ d ∧ s ∉ p.back.map Back.s ∧ s ∉ frz) := by
      intro s
      by_cases h1 : s = d
      · exact .inl (.inl h1)
      by_cases h2 : s ∈ p.back.map Back.s
      · exact .inl (.inr h2)
      by_cases h3 : s ∈ frz
      · exact .inr (.inl ⟨h1, h3, h2⟩)
      · exact .inr (.inr ⟨h1, h2, h3⟩)
    have hndp := List.nodup_append.1 hndO
    -- new against all
    have A2 : ∀ s s' b, (s = d ∨ s ∈ p.back.map Back.s) → s ≠ s' → b ∈ Of2 s → b ∉ Of2 s' := by
      intro s s' b hs hne hb hb'
      rcases cls s' with hs' | ⟨h1, h2, h3⟩ | ⟨h1, h2, h3⟩
      · by_cases e : s = d
        · subst e
          rw [Od] at hb
          rcases hs' with hs' | hs'
          · exact hne hs'.symm
          · rw [Ob' s' (Ne.symm hne) hs'] at hb'
            exact hndp.2.2 b hb b (by rw [hO2]; exact mem_OfAll.2 ⟨s', hs', hb'⟩) rfl
        · have hsb : s ∈ p.back.map Back.s := hs.resolve_left e
          rw [Ob' s e hsb] at hb
          by_cases e' : s' = d
          · subst e'
            rw [Od] at hb'
            exact hndp.2.2 b hb' b (by rw [hO2]; exact mem_OfAll.2 ⟨s, hsb, hb⟩) rfl
          · have hsb' := hs'.resolve_left e'
            rw [Ob' s' e' hsb'] at hb'
            rw [hO2] at hndp
            exact OfAll_disj hndp.2.1 hsb hsb' hne hb hb'
      · rw [Ofr s' h1 h2] at hb'; simp at hb'
      · rw [Oel s' h1 h2 h3] at hb'
        exact K2 s' b h2 (.inl hb') (inO s b hs hb)
    have A3 : ∀ s s' b, (s = d ∨ s ∈ p.back.map Back.s) → b ∈ Of2 s → b ∉ Rf2 s' := by
      intro s s' b hs hb hb'
      have hbO := inO s b hs hb
      rcases cls s' with hs' | ⟨h1, h2, h3⟩ | ⟨h1, h2, h3⟩
      · exact hdis b hbO (inR s' b hs' hb')
      · rw [Rfr s' h1 h2] at hb'
        exact K2 s' b h3 ((hRz s' h2).2.1 b hb') hbO
      · rw [Rel' s' h1 h2 h3] at hb'
        exact K2 s' b h2 (.inr hb') hbO
    have A4 : ∀ s s' b, s ≠ d → s ∉ p.back.map Back.s → s ∉ frz → (s' = d ∨ s' ∈ p.back.map Back.s ∨ s' ∈ frz) → b ∈ Of1 s → b ∉ Rf2 s' := by
      intro s s' b n1 n2 n3 hs' hb hb'
      rcases cls s' with hs2 | ⟨h1, h2, h3⟩ | ⟨h1, h2, h3⟩
      · have hbR := inR s' b hs2 hb'
        have hro : (sg.res.any (fun r => r.1.hasRo r.2) || sg.pars.any Par.outRo) = true := by
          cases hm : (sg.res.any (fun r => r.1.hasRo r.2) || sg.pars.any Par.outRo) with
          | true => rfl
          | false =>
            rw [Bool.or_eq_false_iff] at hm
            rw [ResRep.noR hres hm.1, OutsRep.noR _ houts hm.2] at hbR
            simp at hbR
        rw [hro] at hfrz
        simp only [cond_true] at hfrz
        rcases hRin b hbR with h1 | h1 | h1
        · exact K1 s b n2 (.inl hb) h1
        · rcases hRsub b h1 with h2 | h2 | h2 | h2 | ⟨s2, h2⟩
          · exact hcl.2.2 b h2 s hb
          · exact k.gone b h2 s hb
          · obtain ⟨s2, hs2, hb2⟩ := mem_OfAll.1 h2
            exact h.apart s2 s b (fun e => n2 (e ▸ hs2)) hb2 (k.subO s b hb)
          · obtain ⟨s2, hs2, hb2⟩ := mem_OfAll.1 h2
            exact h.apart s2 s b (fun e => n3 (by rw [← hfrz, ← e]; exact hs2)) hb2 (k.subO s b hb)
          · exact h.unread s s2 b (k.subO s b hb) h2
        · exact absurd (k.rel.lt (.inl hb)) (by omega)
      · rw [Rfr s' h1 h2] at hb'
        rcases (hRz s' h2).2.1 b hb' with q | q
        · exact k.rel.apart s s' b (fun e => n3 (e ▸ h2)) hb q
        · exact k.rel.unread s s' b hb q
      · rcases hs' with e | e | e
        · exact h1 e
        · exact h2 e
        · exact h3 e
    refine ⟨?_, hW.os, hW.tape, hW.output, hW.size, ?_, ?_, ?_, k.links.trans hlk, ?_, ?_⟩
    · refine k.rel.step (fun s => s = d ∨ s ∈ p.back.map Back.s ∨ s ∈ frz) ?_ ?_ ?_ ?_ ?_ ?_ (fun l x _ hl => hlk.ptr l x hl) (fun l c x _ hl => hlk.ref l c x hl) (fun s t x _ hl => hlk.fnl s t x hl) ?_ ?_ ?_ ?_ ?_
      · rw [← hT3, ← hE3]; simp [h.size, f1, g1, k.len]
      · intro s hs
        simp only [not_or] at hs
        rw [hg, if_neg hs.1, f2 s hs.2.2, g2 s hs.2.1]
      · intro s hs
        simp only [not_or] at hs
        rw [ht, if_neg hs.1]
      · intro s hs
        simp only [not_or] at hs
        exact Oel s hs.1 hs.2.1 hs.2.2
      · intro s hs
        simp only [not_or] at hs
        exact Rel' s hs.1 hs.2.1 hs.2.2
      · intro s hs b hb
        simp only [not_or] at hs
        exact K3 s b hs.2.1 hb
      · intro s hs
        by_cases e : s = d
        · subst e
          rw [hg, if_pos rfl, ht, if_pos rfl, Od, Rd]
          exact resV_ok hres (unt_types _ _) e3 tmps'
        by_cases hsb : s ∈ p.back.map Back.s
        · rw [hg, if_neg e, ht, if_neg e, Ob' s e hsb, Rb' s e hsb, e2b s hsb]
          obtain ⟨b, hb, rfl⟩ := List.mem_map.1 hsb
          obtain ⟨v', q1, q2, q3⟩ := g3 b hb
          rw [q1]
          exact (q2 e1).env_any q3
        · have hsf : s ∈ frz := by
            rcases hs with q | q | q
            · exact absurd q e
            · exact absurd q hsb
            · exact q
          rw [hg, if_neg e, ht, if_neg e, Ofr s e hsf, Rfr s e hsf, (f3 s hsf).1, hf1 s hsf]
          obtain ⟨z1, z2, z3⟩ := hRz s hsf
          exact (z1 p.env).imp (by simp) (fun b hb => K3 s b hsb (z2 b hb)) hlk.ptr hlk.ref hlk.fnl
      · intro s hs
        by_cases e : s = d
        · subst e; rw [Od]; exact hndp.1
        by_cases hsb : s ∈ p.back.map Back.s
        · rw [Ob' s e hsb]
          rw [hO2] at hndp
          exact OfAll_nodup hndp.2.1 hsb
        · have hsf : s ∈ frz := by
            rcases hs with q | q | q
            · exact absurd q e
            · exact absurd q hsb
            · exact q
          rw [Ofr s e hsf]; exact List.nodup_nil
      · intro s s' b hs hne hb
        by_cases hs1 : s = d ∨ s ∈ p.back.map Back.s
        · exact A2 s s' b hs1 hne hb
        · simp only [not_or] at hs1
          have hsf : s ∈ frz := by
            rcases hs with q | q | q
            · exact absurd q hs1.1
            · exact absurd q hs1.2
            · exact q
          rw [Ofr s hs1.1 hsf] at hb; simp at hb
      · intro s s' b hs hb
        by_cases hs1 : s = d ∨ s ∈ p.back.map Back.s
        · exact A3 s s' b hs1 hb
        · simp only [not_or] at hs1
          have hsf : s ∈ frz := by
            rcases hs with q | q | q
            · exact absurd q hs1.1
            · exact absurd q hs1.2
            · exact q
          rw [Ofr s hs1.1 hsf] at hb; simp at hb
      · intro s s' b hs' hb
        rcases cls s with hs1 | ⟨h1, h2, h3⟩ | ⟨h1, h2, h3⟩
        · exact A3 s s' b hs1 hb
        · rw [Ofr s h1 h2] at hb; simp at hb
        · rw [Oel s h1 h2 h3] at hb
          exact A4 s s' b h1 h2 h3 hs' hb
    · intro b hb hno
      refine hblk b hb fun hbO => ?_
      rcases hOs1 b hbO with h1 | ⟨s, hs, h1⟩
      · obtain ⟨s, hs⟩ := k.fromO b h1; exact hno s hs
      · exact hno s (k.subO s b h1)
    · intro s b hb
      rcases cls s with hs1 | ⟨h1, h2, h3⟩ | ⟨h1, h2, h3⟩
      · rcases hOin b (inO s b hs1 hb) with q | q
        · rcases hOs1 b q with h1 | ⟨s, hs, h1⟩
          · exact .inl (k.fromO b h1)
          · exact .inl ⟨s, k.subO s b h1⟩
        · exact .inr q
      · rw [Ofr s h1 h2] at hb; simp at hb
      · rw [Oel s h1 h2 h3] at hb
        exact .inl ⟨s, k.subO s b hb⟩
    · intro s b hb
      have fO : ∀ b ∈ Os, ∃ s', b ∈ Of s' ∨ b ∈ Rf s' := by
        intro b hbO
        rcases hOs1 b hbO with h1 | ⟨s, hs, h1⟩
        · obtain ⟨s, hs⟩ := k.fromO b h1; exact ⟨s, .inl hs⟩
        · exact ⟨s, .inl (k.subO s b h1)⟩
      rcases cls s with hs1 | ⟨h1, h2, h3⟩ | ⟨h1, h2, h3⟩
      · rcases hRin b (inR s b hs1 hb) with q | q | q
        · exact .inl (fO b q)
        · left
          rcases hRsub b q with h2 | h2 | h2 | h2 | ⟨s2, h2⟩
          · obtain ⟨s', hs'⟩ := k.fromR b h2; exact ⟨s', .inr hs'⟩
          · obtain ⟨s', hs'⟩ := k.fromO b h2; exact ⟨s', .inl hs'⟩
          · obtain ⟨s2, hs2, hb2⟩ := mem_OfAll.1 h2; exact ⟨s2, .inl hb2⟩
          · obtain ⟨s2, hs2, hb2⟩ := mem_OfAll.1 h2; exact ⟨s2, .inl hb2⟩
          · exact ⟨s2, .inr h2⟩
        · exact .inr q
      · rw [Rfr s h1 h2] at hb
        left
        rcases (hRz s h2).2.1 b hb with q | q
        · exact ⟨s, .inl (k.subO s b q)⟩
        · exact ⟨s, .inr (k.subR s b q)⟩
      · rw [Rel' s h1 h2 h3] at hb
        exact .inl ⟨s, .inr (k.subR s b hb)⟩
    · intro s hs
      simp only [List.mem_append, List.mem_singleton, not_or] at hs
      obtain ⟨⟨⟨n1, n2⟩, n3⟩, n4⟩ := hs
      have ko := k.out s n1
      exact ⟨by rw [hg, if_neg n4, f2 s n3, g2 s n2]; exact ko.1, by rw [ht, if_neg n4], by rw [Oel s n4 n2 n3]; exact ko.2.1, by rw [Rel' s n4 n2 n3]; exact ko.2.2⟩
    · rw [← hE3]; simp [f1, g1, k.len]

end
end Go.Vm

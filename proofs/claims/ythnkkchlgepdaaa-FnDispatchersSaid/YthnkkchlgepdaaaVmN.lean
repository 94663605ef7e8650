/- Operations of the evaluator Vm are the machine's: moves, assignments, variables, loads. Own work; lemmas. No condition. -/
import Derived.Test.YthnkkchlgepdaaaVmM
namespace Go.Vm
open Go.RowKit
set_option linter.unusedVariables false

section
variable {P : Program} {w : World} {env : Env} {tmps : Array Value} {Of Rf : Nat → List Nat} {o : Oper} {d : Nat}

theorem binop_ok {T : Tab} (hT : TabOk P T) (h : Rel w env tmps Of Rf) (hod : o.dst = some d) (hd : d < env.length) {op : BinOp} {t t' : TypeId} {x y : Operand} (ho : o.op = .binOp op t x y t') :
    OpOk P w env tmps Of Rf o (binop T env d op t (opnd env x) (opnd env y)) := by
  unfold binop
  split
  · rename_i k a n k' a' n' hx hy
    obtain ⟨ex, ix⟩ := opnd_int h hx
    obtain ⟨ey, iy⟩ := opnd_int h hy
    cases hsh : BinOp.isShift op with
    | true => exact shiftOp_ok h hod hd ix ho ex ey
    | false =>
      cases hk : (k == k') with
      | false => exact OpOk.bad
      | true =>
        have : k = k' := by simpa using hk
        subst this
        exact intOp_ok h hod hd ix iy ho ex ey
  · rename_i u a n v a' n' _ hx hy
    split
    · rename_i ti hti
      split
      · rename_i p q hp hq
        cases hc : ti.cmp with
        | false => exact OpOk.bad
        | true =>
          obtain ⟨rfl, rfl⟩ := Dat.as_mk hp
          obtain ⟨rfl, rfl⟩ := Dat.as_mk hq
          obtain ⟨Rx, hsx, -⟩ := opnd_ok h x
          obtain ⟨Ry, hsy, -⟩ := opnd_ok h y
          rw [hx] at hsx
          rw [hy] at hsy
          obtain ⟨cx, kx, rx⟩ := hsx
          obtain ⟨cy, ky, ry⟩ := hsy
          obtain rfl := opnd_ro hx
          obtain rfl := opnd_ro hy
          obtain ⟨h1, h2, h3⟩ := (hT t ti hti).2 hc w op x y n n' _ _ cx cy [] Rx [] Ry kx ky rx ry
          simp only [cond_true]
          unfold eqOp
          split
          · exact yes_ok h hod hd (by simp [execOp, ho, h1, h2])
          · exact yes_ok h hod hd (by simp [execOp, ho, h1, h3])
          · exact OpOk.bad
      · exact OpOk.bad
    · exact OpOk.bad
  · exact OpOk.bad

theorem unop_ok (h : Rel w env tmps Of Rf) (hod : o.dst = some d) (hd : d < env.length) {op : UnOp} {t : TypeId} {x : Operand} (ho : o.op = .unOp op t x) :
    OpOk P w env tmps Of Rf o (unopAct env d op (opnd env x)) := by
  unfold unopAct
  cases op with
  | not =>
    cases hx : opnd env x with
    | dat t a b =>
      cases t with
      | bool => exact yes_ok h hod hd (by simp [execOp, ho, opnd_bool h hx, Op.unary])
      | _ => exact OpOk.bad
    | _ => exact OpOk.bad
  | neg =>
    cases hx : opnd env x with
    | dat t a b =>
      cases t with
      | int k => exact numb_ok h hod hd (by simp [execOp, ho, (opnd_int h hx).1, Op.unary, Op.intArith])
      | _ => exact OpOk.bad
    | _ => exact OpOk.bad
  | _ => cases opnd env x <;> exact OpOk.bad

theorem conv_ok {T : Tab} (hT : TabOk P T) (h : Rel w env tmps Of Rf) (hod : o.dst = some d) (hd : d < env.length) {s t : TypeId} {x : Operand} (ho : o.op = .convert s t x) (hs : (P.underlying s).isSome = true) :
    OpOk P w env tmps Of Rf o (convAct T env d t (opnd env x)) := by
  unfold convAct
  split
  · rename_i ti k a n ht hx
    obtain ⟨ex, ix⟩ := opnd_int h hx
    obtain ⟨ds, hds⟩ := Option.isSome_iff_exists.1 hs
    have run : ∀ k', ti.ty = .int k' → (execOp (Go.Act.eval ⟨tmps, []⟩) o).run P w = .ok (.value (.int k' (k'.wrap n))) w := by
      intro k' hk'
      have hu := (hT t ti ht).1.int k' hk'
      simp [execOp, ho, ex, Go.convert, run_underlying hds, run_underlying hu, Conv.intToInt]
    split
    · rename_i hty
      have gen : ∀ (hyp : Option Prop), (∀ q, hyp = some q → q) → inK .i64 n → OpOk P w env tmps Of Rf o (put env d none hyp [] (.dat (.int .i64) .ro n)) := by
        intro hyp hh hin
        have hr := run _ hty
        rw [wrap_id hin] at hr
        exact OpOk.put0 h hod hd fun _ => ⟨hh, _, [], hr, plainSlot ⟨rfl, rfl, rfl, hin⟩ rfl, by simp⟩
      cases k with
      | u64 => exact OpOk.put0 h hod hd fun _ => ⟨by simp, _, [], run _ hty, plainSlot ⟨rfl, rfl, rfl, wrap_in _ _⟩ rfl, by simp⟩
      | u8 =>
        refine gen _ (fun q hq => ?_) ?_
        · cases hq
          simp [inK, IntKind.min, IntKind.max, IntKind.signed, IntKind.bits] at ix
          omega
        · simp [inK, IntKind.min, IntKind.max, IntKind.signed, IntKind.bits] at ix ⊢
          omega
      | _ =>
        refine gen _ (by simp) ?_
        simp [inK, IntKind.min, IntKind.max, IntKind.signed, IntKind.bits] at ix ⊢ <;> omega
    · rename_i k' _ hty
      exact OpOk.put0 h hod hd fun _ => ⟨by simp, _, [], run _ hty, plainSlot ⟨rfl, rfl, rfl, wrap_in _ _⟩ rfl, by simp⟩
    · exact OpOk.bad
  · exact OpOk.bad

theorem mv_opnd (h : Rel w env tmps Of Rf) (hod : o.dst = some d) (hd : d < env.length) {x : Operand} (hrun : (execOp (Go.Act.eval ⟨tmps, []⟩) o).run P w = .ok (.value (Go.Act.eval ⟨tmps, []⟩ x)) w) :
    OpOk P w env tmps Of Rf o (mv env d (opnd env x)) := by
  obtain ⟨R', hs, hR⟩ := opnd_ok h x
  exact OpOk.mv h hod hd hrun hs hR

theorem set_self (tmps : Array Value) (s : Nat) : tmps.setIfInBounds s (tv tmps s) = tmps := by
  apply Array.ext_getElem?
  intro i
  rw [Array.getElem?_setIfInBounds]
  split
  · rename_i e
    subst e
    split
    · rename_i h; simp [tv, Array.getD_eq_getD_getElem?, h]
    · rename_i h; simp [Nat.le_of_not_lt h]
  · rfl

/-- a value that owns all that it owned before, moved from a slot -/
theorem shift_ok (h : Rel w env tmps Of Rf) (hod : o.dst = some d) (hd : d < env.length) {s : Nat} {ds : List Dat} (hs : (get env s).v = .tup ds) (hsd : s ≠ d)
    (hrun : (execOp (Go.Act.eval ⟨tmps, []⟩) o).run P w = .ok (.value (tv tmps s)) w) :
    OpOk P w env tmps Of Rf o (put (env.set s ((get env s).fresh .dead)) d none none [s] (.tup ds)) := by
  intro pre' hyp' env' ws he hp
  simp only [put, Act.ok.injEq] at he
  obtain ⟨rfl, rfl, rfl, rfl⟩ := he
  have hlt : s < env.length := get_lt (by rw [hs]; simp)
  have hts := h.slot s
  rw [hs] at hts
  have hl0 := links_fresh h hlt .dead (tv tmps s) (w' := w) (fun _ _ _ _ => rfl)
  have hself := set_self tmps s
  rw [hself] at hl0
  have hg : ∀ j, get (env.set s ((get env s).fresh .dead)) j = if j = s then (get env s).fresh .dead else get env j := fun j => get_set _ _ _ _ hlt
  have hk : Tk w tmps env Of Rf (env.set s ((get env s).fresh .dead)) (fset Of s []) (fset Rf s []) [s] (Of s) (Rf s) := by
    refine ⟨?_, by simp, ?_, ?_, hl0, ?_, ?_, h.nodup s, fun b hb => ⟨s, hb⟩, fun b hb => ⟨s, hb⟩, ?_⟩
    · refine h.step (fun j => j = s) (by simpa using h.size) (fun j hj => by rw [hg, if_neg hj]) (fun j hj => rfl) (fun j hj => fset_ne _ _ hj) (fun j hj => fset_ne _ _ hj) (fun _ _ _ _ => rfl)
        (fun l x _ hx => hl0.ptr l x hx) (fun l c x _ hx => hl0.ref l c x hx) (fun j t x _ hx => hl0.fnl j t x hx) ?_ ?_ ?_ ?_ ?_
      · rintro j rfl; rw [hg, if_pos rfl, fset_same, fset_same]; exact ⟨rfl, rfl⟩
      · rintro j rfl; rw [fset_same]; simp
      · rintro j j' b rfl _ hb; rw [fset_same] at hb; simp at hb
      · rintro j j' b rfl hb; rw [fset_same] at hb; simp at hb
      · rintro j j' b rfl _ hb; rw [fset_same] at hb; simp at hb
    · intro j b hb
      by_cases hj : j = s
      · subst hj; rw [fset_same] at hb; simp at hb
      · rwa [fset_ne _ _ hj] at hb
    · intro j b hb
      by_cases hj : j = s
      · subst hj; rw [fset_same] at hb; simp at hb
      · rwa [fset_ne _ _ hj] at hb
    · intro j dd cs bk ho hsome
      by_cases hj : j = s
      · subst hj; rw [hs] at ho; simp [obj] at ho
      · rw [hg, if_neg hj]; exact ⟨dd, ho, rfl⟩
    · intro j hj
      simp at hj
      exact ⟨by rw [hg, if_neg hj], fset_ne _ _ hj, fset_ne _ _ hj⟩
    · intro b hb j hj
      by_cases e : j = s
      · subst e; rw [fset_same] at hj; simp at hj
      · rw [fset_ne _ _ e] at hj; exact h.apart s j b (Ne.symm e) hb hj
  refine ⟨by simp, _, w, tmps.setIfInBounds d (tv tmps s), fset (fset Of s []) d (Of s), fset (fset Rf s []) d (Rf s), hrun, by rw [hod]; exact ⟨_, rfl, rfl⟩, ?_⟩
  exact put_ok h hk hd (.tup ds) (tv tmps s) (O2 := Of s) (R2 := Rf s) (Wld.refl w) (fun _ _ _ => rfl) (fun _ _ _ _ => rfl) (fun env' tmps' hl => hts.imp (fun _ _ => rfl) (fun _ _ => rfl) hl.ptr hl.ref hl.fnl)
    (h.nodup s) (fun b hb => .inl hb) (fun b hb => h.unread s s b hb) (fun b hb => .inl hb)

theorem move_ok (h : Rel w env tmps Of Rf) (hod : o.dst = some d) (hd : d < env.length) {x : Operand} (ho : o.op = .move x) : OpOk P w env tmps Of Rf o (mvMove env d x) := by
  have hrun : (execOp (Go.Act.eval ⟨tmps, []⟩) o).run P w = .ok (.value (Go.Act.eval ⟨tmps, []⟩ x)) w := by simp [execOp, ho]
  unfold mvMove
  split
  · rename_i s
    split
    · rename_i ds hv
      cases hsd : (s == d) with
      | true => exact OpOk.bad
      | false => exact shift_ok h hod hd hv (by simpa using hsd) hrun
    · exact mv_opnd h hod hd hrun
  · exact mv_opnd h hod hd hrun

/-- data moved out of a place into a slot -/
theorem pulled_ok (h : Rel w env tmps Of Rf) (hod : o.dst = some d) (hd : d < env.length) {l : Lk} {x : Value} (hx : RefOk w env tmps l none x) (hf : freshR env l = true) (hst : l.st = []) {p : Dat × Env} (hp : pull env l.s l.off = some p)
    (hrun : (execOp (Go.Act.eval ⟨tmps, []⟩) o).run P w = .ok (.value x) w) : OpOk P w env tmps Of Rf o (put p.2 d none none [l.s] (.dat p.1.t p.1.a p.1.x)) := by
  intro pre' hyp' env' ws he hp'
  simp only [put, Act.ok.injEq] at he
  obtain ⟨rfl, rfl, rfl, rfl⟩ := he
  obtain ⟨dd, env1⟩ := p
  obtain ⟨D, cs, bk, hdr, O1, R1, Of1, Rf1, hob, hcs, hr, ⟨u, el, b, hu, ha⟩, hk, -, -⟩ := pull_ok h hp
  obtain ⟨cs0, bk0, hd0, hloc, hcs0, -, hx0⟩ := hx.2 hf
  unfold locOf at hloc
  rw [hob] at hloc
  simp only [hst, loc, Option.some.injEq, Prod.mk.injEq] at hloc
  obtain ⟨rfl, rfl⟩ := hloc
  rw [hcs] at hcs0
  simp only [Option.some.injEq] at hcs0
  subst hcs0
  simp only [cutV] at hx0
  subst hx0
  refine ⟨by simp, _, w, tmps.setIfInBounds d x, fset Of1 d O1, fset Rf1 d R1, hrun, by rw [hod]; exact ⟨x, rfl, rfl⟩, ?_⟩
  have hcl := Tk.clean h hk
  refine put_ok h hk hd (.dat dd.t dd.a dd.x) x (O2 := O1) (R2 := R1) (Wld.refl w) (fun _ _ _ => rfl) (fun _ _ _ _ => rfl) (fun env' tmps' hl => ⟨[x], ?_, hr⟩) hk.nd (fun b hb => .inl hb) hcl.2.1 (fun b hb => .inl hb)
  have h1 := hr.len.1
  cases ht : dd.t with
  | pair t u => rw [ht] at h1; have := t.sz_pos; have := u.sz_pos; simp [Ty.sz] at h1; omega
  | _ => rfl

theorem assign_ok (h : Rel w env tmps Of Rf) (hod : o.dst = some d) (hd : d < env.length) {x : Operand} {al : List Nat} (ho : o.op = .assign x) : OpOk P w env tmps Of Rf o (assign env al d x) := by
  have hrun : (execOp (Go.Act.eval ⟨tmps, []⟩) o).run P w = .ok (.value (Go.Act.eval ⟨tmps, []⟩ x)) w := by simp [execOp, ho]
  obtain ⟨R', hs, hR⟩ := opnd_ok h x
  unfold assign
  split
  · rename_i l hv
    rw [hv] at hs
    cases hal : al.contains d with
    | true =>
      have hs' : SlotOk w env tmps (.ref l none) (Go.Act.eval ⟨tmps, []⟩ x) [] [] := ⟨rfl, rfl, hs.2.2⟩
      exact OpOk.mv h hod hd hrun hs' (by simp)
    | false =>
      cases hls : (l.s == d) with
      | true =>
        simp only [cond_false, cond_true]
        cases hc : (freshR env l && l.st.isEmpty && (l.off == 0)) with
        | false => exact OpOk.bad
        | true =>
          simp at hc hls
          simp only [cond_true]
          split
          · rename_i e a y hvd
            -- the slot gets the very header that it holds
            intro pre' hyp' env' ws he hp
            simp only [Act.ok.injEq] at he
            obtain ⟨rfl, rfl, rfl, rfl⟩ := he
            have hsame : Go.Act.eval ⟨tmps, []⟩ x = tv tmps d := by
              obtain ⟨cs0, bk0, hd0, hloc, hcs0, -, hx0⟩ := hs.2.2.2 hc.1.1
              have hslot := h.slot d
              rw [hvd] at hslot
              obtain ⟨cs, hk, hr⟩ := hslot
              have hk' : cs = [tv tmps d] := hk
              unfold locOf at hloc
              rw [hls, hvd] at hloc
              have hob : obj w (.dat (.sl e) a y) (tv tmps d) = some (⟨.sl e, a, y⟩, cs, none) := by
                cases hx : tv tmps d <;> (simp only [obj]; rw [← hx, hk.unpack hr])
              rw [hob] at hloc
              simp only [hc.1.2, loc, Option.some.injEq, Prod.mk.injEq] at hloc
              obtain ⟨rfl, rfl⟩ := hloc
              rw [hk', hc.2] at hcs0
              simp at hcs0
              rw [hx0, ← hcs0]; rfl
            have hself := set_self tmps d
            refine ⟨by simp, _, w, tmps, Of, Rf, hrun, by rw [hod]; exact ⟨_, rfl, by rw [hsame, hself]⟩, ?_⟩
            exact ⟨h, rfl, rfl, rfl, Nat.le_refl _, fun _ _ _ => rfl, fun s b hb => .inl ⟨s, hb⟩, fun s b hb => .inl ⟨s, .inr hb⟩, .refl _ _ _, fun _ _ => ⟨rfl, rfl, rfl, rfl⟩, rfl⟩
          · exact OpOk.bad
      | false =>
        simp only [cond_false]
        cases hc : (l.st.isEmpty && freshR env l) with
        | false => exact OpOk.bad
        | true =>
          simp at hc
          simp only [cond_true]
          split
          · rename_i p hp
            exact pulled_ok h hod hd hs.2.2 hc.2 hc.1 hp hrun
          · exact OpOk.bad
  · exact OpOk.mv h hod hd hrun hs hR

end
end Go.Vm

/- Operations of the evaluator Vm are the machine's: lengths, slices, parts of values. Own work; lemmas. No condition. -/
import Derived.Test.YthnkkchlgepdaaaVmP
namespace Go.Vm
open Go.RowKit
set_option linter.unusedVariables false

section
variable {P : Program} {w : World} {env : Env} {tmps : Array Value} {Of Rf : Nat → List Nat} {o : Oper} {d : Nat}

theorem run_builtin {b : Builtin} {ts : Array TypeId} {xs : Array Operand} {c : Call} (ho : o.op = .call c) (hc : c = ⟨.builtin b, xs, ts⟩) {v : Value}
    (hv : (builtin b ts o.type (xs.map fun | .const _ => true | _ => false) (xs.map (Go.Act.eval ⟨tmps, []⟩))).run P w = .ok (.value v) w) :
    (execOp (Go.Act.eval ⟨tmps, []⟩) o).run P w = .ok (.value v) w := by
  subst hc
  simp [execOp, ho, resolve, invoke]
  exact hv

theorem hdr_len {e : Ty} {a : An} {xs : List e.den} {hd : Value} {O1 R1 : List Nat} (h : Rep w (.sl e) a xs [hd] O1 R1) (ha : a ≠ .hole) : (∃ p cap, hd = .slice p xs.length cap) ∧ xs.length ≤ maxEl := by
  have hro : RepRo w (Rep w e .ro) xs [hd] O1 R1 → (∃ p cap, hd = .slice p xs.length cap) ∧ xs.length ≤ maxEl := by
    intro h
    rcases h.2 with ⟨-, rfl, p, cap, h⟩ | ⟨b, off, cap, cells, R', h, -, hm, -⟩
    · simp at h; exact ⟨⟨p, cap, h⟩, by simp⟩
    · simp at h; exact ⟨⟨_, _, h⟩, hm.1⟩
  cases a with
  | hole => exact absurd rfl ha
  | own el ae =>
    obtain ⟨v, cells, O', hv, hown, hm, -⟩ := h
    simp at hv
    subst hv
    refine ⟨?_, hm⟩
    rcases hown.2 with ⟨h1, h2⟩ | ⟨g, cap, cur, h1, -⟩
    · exact ⟨none, 0, by rw [h1, h2]⟩
    · exact ⟨_, _, h1⟩
  | ro => exact hro h
  | pair _ _ => exact hro h

theorem cutL_le {α : Type} (xs : List α) (cut : Option (Nat × Nat × Nat)) : (cutL xs cut).length ≤ xs.length := by
  cases cut with
  | none => exact Nat.le_refl _
  | some c => obtain ⟨lo, n, z⟩ := c; simp [cutL]; omega

theorem int_len {n : Nat} (h : n ≤ maxEl) : inK .i64 (n : Int) := by
  simp [inK, IntKind.min, IntKind.max, IntKind.signed, IntKind.bits, maxEl] at *
  omega

theorem ro_hdr {t : Ty} {a : An} {y : t.den} {x : Value} {R' : List Nat} (ht : t.isPair = false) (hs : SlotOk w env tmps (.dat t a y) x [] R') : Rep w t a y [x] [] R' := by
  obtain ⟨cs, hk, hr⟩ := hs
  cases t <;> first | (simp [Ty.isPair] at ht; done) | (have : cs = [x] := hk; subst this; exact hr)

theorem lenAct_ok {T : Tab} (hT : TabOk P T) (h : Rel w env tmps Of Rf) (hod : o.dst = some d) (hd : d < env.length) {t : TypeId} {x : Operand} (ho : o.op = .call ⟨.builtin .len, #[x], #[t]⟩) :
    OpOk P w env tmps Of Rf o (lenAct T env d t (opnd env x)) := by
  obtain ⟨R', hs, hR⟩ := opnd_ok h x
  unfold lenAct
  split
  · rename_i ti hti
    split
    · rename_i e hty
      obtain ⟨el, ae, hu, -⟩ := sl_und hT hti hty
      have hrun : ∀ {n : Nat} {p : Option Addr} {cap : Nat}, Go.Act.eval ⟨tmps, []⟩ x = .slice p n cap → (execOp (Go.Act.eval ⟨tmps, []⟩) o).run P w = .ok (.value (.int .i64 (n : Int))) w := by
        intro n p cap hx
        refine run_builtin ho rfl ?_
        simp [builtin, Builtin.len_, run_underlying hu, hx, goInt]
      split
      · rename_i l cut hx
        rw [hx] at hs
        split
        · rename_i e' el' ae' xs hrd
          obtain ⟨cs1, bk, hd', O1, R1, hxv, hck, hloc, hcs, hrep, -, -, -⟩ := rdR_ok h hs.2.2 hrd
          obtain ⟨⟨p, cap, hh⟩, hm⟩ := hdr_len hrep (by simp)
          obtain ⟨p', cap', hcv, -⟩ := cutL_len hh hck
          have hle := Nat.le_trans (cutL_le xs cut) hm
          refine OpOk.put0 h hod hd fun hp => ⟨?_, .int .i64 (((cutL xs cut).length : Nat) : Int), [], hrun (by rw [hxv, hcv]), plainSlot ⟨rfl, rfl, rfl, int_len hle⟩ rfl, by simp⟩
          intro q hq; exact Option.some.inj hq ▸ hle
        · exact OpOk.bad
      · rename_i e' a' xs hx
        obtain rfl := opnd_ro hx
        rw [hx] at hs
        obtain ⟨⟨p, cap, hh⟩, hm⟩ := hdr_len (ro_hdr rfl hs) (by simp)
        refine OpOk.put0 h hod hd fun hp => ⟨?_, .int .i64 ((List.length (xs : List e'.den) : Nat) : Int), [], hrun hh, plainSlot ⟨rfl, rfl, rfl, int_len hm⟩ rfl, by simp⟩
        intro q hq; exact Option.some.inj hq ▸ hm
      · rename_i hx
        rw [hx] at hs
        refine OpOk.put0 h hod hd fun hp => ⟨by simp, .int .i64 0, [], by simpa using hrun hs.2.2, plainSlot ⟨rfl, rfl, rfl, int_len (n := 0) (by simp [maxEl])⟩ rfl, by simp⟩
      · exact OpOk.bad
    · rename_i hty
      split
      · rename_i a' s hx
        obtain rfl := opnd_ro hx
        rw [hx] at hs
        obtain ⟨-, -, h3, hm⟩ := ro_hdr rfl hs
        simp at h3
        have hu := (hT t ti hti).1.strg hty
        refine OpOk.put0 h hod hd fun hp => ⟨?_, .int .i64 ((ByteArray.size s : Nat) : Int), [], ?_, plainSlot ⟨rfl, rfl, rfl, int_len hm⟩ rfl, by simp⟩
        · intro q hq; exact Option.some.inj hq ▸ hm
        · refine run_builtin ho rfl ?_
          simp [builtin, Builtin.len_, run_underlying hu, h3, goInt]
      · exact OpOk.bad
    · exact OpOk.bad
  · exact OpOk.bad

theorem minmax_ok (h : Rel w env tmps Of Rf) (hod : o.dst = some d) (hd : d < env.length) {mx : Bool} {xs : Array Operand} {ts : Array TypeId} (ho : o.op = .call ⟨.builtin (cond mx .max .min), xs, ts⟩) :
    OpOk P w env tmps Of Rf o (minmax env d mx (xs.toList.map (opnd env))) := by
  unfold minmax
  split
  · rename_i a x b y hl
    have hxs : ∃ X Y, xs = #[X, Y] := by
      obtain ⟨l⟩ := xs
      have hl2 : l.length = 2 := by have := congrArg List.length hl; simpa using this
      match l, hl2 with
      | [X, Y], _ => exact ⟨X, Y, rfl⟩
    obtain ⟨X, Y, rfl⟩ := hxs
    simp at hl
    obtain ⟨ex, ix⟩ := opnd_int h hl.1
    obtain ⟨ey, iy⟩ := opnd_int h hl.2
    refine OpOk.put0 h hod hd fun hp => ⟨by simp, .int .i64 (cond mx (max x y) (min x y)), [], ?_, plainSlot ⟨rfl, rfl, rfl, ?_⟩ rfl, by simp⟩
    · refine run_builtin ho rfl ?_
      cases mx
      · simp [builtin, Builtin.min_, Builtin.min2, ex, ey]; split <;> omega
      · simp [builtin, Builtin.max_, Builtin.max2, ex, ey]; split <;> omega
    · unfold inK at *
      cases mx
      · simp only [cond_false, Int.min_def]; split <;> omega
      · simp only [cond_true, Int.max_def]; split <;> omega
  · exact OpOk.bad

theorem hole_rep (w : World) {t : Ty} (y : t.den) {cs : List Value} (hl : cs.length = t.sz) (h1 : ∀ v ∈ cs, v.oneCell' = true) : Rep w t .hole y cs [] [] := by
  induction t generalizing cs with
  | pair t u iht ihu =>
    refine ⟨cs.take t.sz, cs.drop t.sz, [], [], [], [], by simp, rfl, rfl, ?_, ?_⟩
    · exact iht _ (by simp [hl, Ty.sz]) (fun v hv => h1 v (List.mem_of_mem_take hv))
    · exact ihu _ (by simp [hl, Ty.sz]) (fun v hv => h1 v (List.mem_of_mem_drop hv))
  | int k | bool | str | sl e =>
    match cs, hl with
    | [v], _ => exact ⟨rfl, rfl, v, rfl, h1 v (by simp)⟩

/-- a slot turned in form, and what left it -/
theorem tk_form (h : Rel w env tmps Of Rf) {s : Nat} (hlt : s < env.length) {v : V} {O0 O1 O2 R0 R1 R2 : List Nat}
    (hobj : ∀ d cs bk, obj w (get env s).v (tv tmps s) = some (d, cs, bk) → ∃ d', obj w v (tv tmps s) = some (d', cs, bk) ∧ d'.t = d.t)
    (hOs : Of s = O0 ++ O1 ++ O2) (hRs : Rf s = R0 ++ R1 ++ R2) (hslot : ∀ env', SlotOk w env' tmps v (tv tmps s) (O0 ++ O2) (R0 ++ R2)) :
    Tk w tmps env Of Rf (env.set s ((get env s).form v)) (fset Of s (O0 ++ O2)) (fset Rf s (R0 ++ R2)) [s] O1 R1 := by
  have hnd := h.nodup s
  rw [hOs] at hnd
  have hmid := nodup_mid hnd
  have hlinks := links_form (w := w) (env := env) (tmps := tmps) (s := s) (v := v) hlt (fun d cs bk ho => let ⟨d', h1, _⟩ := hobj d cs bk ho; ⟨d', h1⟩) (fun _ _ _ => trivial)
  have hget : ∀ j, get (env.set s ((get env s).form v)) j = if j = s then (get env s).form v else get env j := fun j => get_set _ _ _ _ hlt
  have hsubO : ∀ b, b ∈ O0 ++ O2 → b ∈ Of s := by intro b hb; rw [hOs]; simp at hb ⊢; grind
  have hsubR : ∀ b, b ∈ R0 ++ R2 → b ∈ Rf s := by intro b hb; rw [hRs]; simp at hb ⊢; grind
  refine ⟨?_, by simp, ?_, ?_, hlinks, ?_, ?_, hmid.1, ?_, ?_, ?_⟩
  · refine h.step (fun j => j = s) (by simpa using h.size) (fun j hj => by rw [hget, if_neg hj]) (fun j hj => rfl) (fun j hj => fset_ne _ _ hj) (fun j hj => fset_ne _ _ hj) (fun _ _ _ _ => rfl)
      (fun l x _ hx => hlinks.ptr l x hx) (fun l c x _ hx => hlinks.ref l c x hx) (fun j t x _ hx => hlinks.fnl j t x hx) ?_ ?_ ?_ ?_ ?_
    · rintro j rfl
      rw [hget, if_pos rfl, fset_same, fset_same]
      exact hslot _
    · rintro j rfl
      rw [fset_same]
      rw [List.nodup_append] at hnd ⊢
      rw [List.nodup_append] at hnd
      obtain ⟨⟨ha, hb, hc⟩, hd', he⟩ := hnd
      exact ⟨ha, hd', fun x hx y hy => he x (by simp [hx]) y hy⟩
    · rintro j j' b' rfl hne hb' hb''
      rw [fset_same] at hb'
      rw [fset_ne _ _ (Ne.symm hne)] at hb''
      exact h.apart j j' b' hne (hsubO _ hb') hb''
    · rintro j j' b' rfl hb' hb''
      rw [fset_same] at hb'
      by_cases hjj : j' = j
      · subst hjj
        rw [fset_same] at hb''
        exact h.unread j' j' b' (hsubO _ hb') (hsubR _ hb'')
      · rw [fset_ne _ _ hjj] at hb''
        exact h.unread j j' b' (hsubO _ hb') hb''
    · rintro j j' b' rfl hb' hb''
      rw [fset_same] at hb''
      by_cases hjj : j = j'
      · subst hjj
        rw [fset_same] at hb'
        exact h.unread j j b' (hsubO _ hb') (hsubR _ hb'')
      · rw [fset_ne _ _ hjj] at hb'
        exact h.unread j j' b' hb' (hsubR _ hb'')
  · intro j b' hb'
    by_cases hj : j = s
    · subst hj; rw [fset_same] at hb'; exact hsubO _ hb'
    · rwa [fset_ne _ _ hj] at hb'
  · intro j b' hb'
    by_cases hj : j = s
    · subst hj; rw [fset_same] at hb'; exact hsubR _ hb'
    · rwa [fset_ne _ _ hj] at hb'
  · intro j d cs bk ho hsome
    by_cases hj : j = s
    · subst hj
      rw [hget, if_pos rfl]
      exact hobj d cs bk ho
    · rw [hget, if_neg hj]; exact ⟨d, ho, rfl⟩
  · intro j hj
    simp at hj
    exact ⟨by rw [hget, if_neg hj], fset_ne _ _ hj, fset_ne _ _ hj⟩
  · exact fun b' hb' => ⟨s, by rw [hOs]; simp [hb']⟩
  · exact fun b' hb' => ⟨s, by rw [hRs]; simp [hb']⟩
  · intro b' hb' j hj
    by_cases hjs : j = s
    · subst hjs
      rw [fset_same] at hj
      have := hmid.2.1 b' hb'
      have := hmid.2.2 b' hb'
      simp at hj; grind
    · rw [fset_ne _ _ hjs] at hj
      exact h.apart s j b' (Ne.symm hjs) (by rw [hOs]; simp [hb']) hj

/-- a slot gets data that were moved out of others, as they are -/
theorem OpOk.took (h : Rel w env tmps Of Rf) (hod : o.dst = some d) (hd : d < env.length) {env1 : Env} {Of1 Rf1 : Nat → List Nat} {ws O1 R1 : List Nat} (k : Tk w tmps env Of Rf env1 Of1 Rf1 ws O1 R1)
    {pre hyp : Option Prop} {v : V} {x : Value} (H : (∀ p, pre = some p → p) → (∀ q, hyp = some q → q) ∧ (execOp (Go.Act.eval ⟨tmps, []⟩) o).run P w = .ok (.value x) w ∧
      ∀ env' tmps', Links w env tmps w env' tmps' → SlotOk w env' tmps' v x O1 R1) :
    OpOk P w env tmps Of Rf o (put env1 d pre hyp ws v) := by
  intro pre' hyp' env' ws' he hp'
  simp only [put, Act.ok.injEq] at he
  obtain ⟨rfl, rfl, rfl, rfl⟩ := he
  obtain ⟨h1, hrun, hv⟩ := H hp'
  have hcl := Tk.clean h k
  exact ⟨h1, _, w, tmps.setIfInBounds d x, fset Of1 d O1, fset Rf1 d R1, hrun, by rw [hod]; exact ⟨x, rfl, rfl⟩,
    put_ok h k hd v x (O2 := O1) (R2 := R1) (Wld.refl w) (fun _ _ _ => rfl) (fun _ _ _ _ => rfl) hv k.nd (fun b hb => .inl hb) hcl.2.1 (fun b hb => .inl hb)⟩

theorem extract_ok (h : Rel w env tmps Of Rf) (hod : o.dst = some d) (hd : d < env.length) {x : Operand} {i : Nat} (ho : o.op = .extract x i) : OpOk P w env tmps Of Rf o (extractAct env d x i) := by
  unfold extractAct
  split
  · rename_i s
    cases hsd : (s == d) with
    | true => exact OpOk.bad
    | false =>
      simp only [cond_false]
      have hsd' : s ≠ d := by simpa using hsd
      split
      · rename_i ds hv
        have hs := h.slot s
        rw [hv] at hs
        obtain ⟨vs, hx, hl⟩ := hs
        split
        · rename_i t a y hi
          have hlen : ∀ (w : World) (x : Dat) (c : List Value) (O1 R1 : List Nat), RepOne w x c O1 R1 → c.length = 1 := by
            rintro w x c O1 R1 ⟨x', cs, rfl, -⟩; rfl
          obtain ⟨c0, c1, c2, O0, O1, O2, R0, R1, R2, hvs, hc0, hO, hR, hone, hset⟩ := hl.focus (f := RepOne) (n := 1) (w := w) hlen (fun w w' x c O1 R1 h ho hr => h.frame ho hr) hi
          obtain ⟨x', cs, rfl, hpk, hrep⟩ := hone
          have hvi : vs[i]? = some x' := by
            rw [hvs, List.append_assoc, List.getElem?_append_right (by omega), hc0]; simp
          have hrun : (execOp (Go.Act.eval ⟨tmps, []⟩) o).run P w = .ok (.value x') w := by
            have : Go.Act.eval ⟨tmps, []⟩ (.tmp s) = .tuple vs.toArray := hx
            simp [execOp, ho, Instr.extract, this, hvi]
          cases hpl : a.plain with
          | true =>
            simp only [cond_true]
            obtain ⟨hO1, hrr⟩ := hrep.ro_of hpl
            exact OpOk.put0 h hod hd fun hp => ⟨by simp, x', R1, hrun, ⟨cs, hpk, hrr⟩, fun b hb => ⟨s, by rw [hR]; simp [hb]⟩⟩
          | false =>
            simp only [cond_false]
            have hlt : s < env.length := get_lt (by rw [hv]; simp)
            have hh : RepOne w ⟨t, .hole, y⟩ [x'] [] [] := ⟨x', cs, rfl, hpk, hole_rep w y hrep.len.1 hrep.len.2⟩
            have hl' := hset w ⟨t, .hole, y⟩ [x'] [] [] (fun _ _ => rfl) hh
            have k := tk_form h hlt (v := .tup (ds.set i ⟨t, .hole, y⟩)) (O0 := O0) (O1 := O1) (O2 := O2) (R0 := R0) (R1 := R1) (R2 := R2)
              (fun d cs bk ho => by rw [hv] at ho; simp [obj] at ho) hO hR
              (fun env' => ⟨vs, hx, by rw [hvs]; simpa using hl'⟩)
            exact OpOk.took h hod hd k fun hp => ⟨by simp, hrun, fun env' tmps' _ => ⟨cs, hpk, hrep⟩⟩
        · exact OpOk.bad
      · exact OpOk.bad
  · exact OpOk.bad

theorem RepL.cut {α : Type} {f : α → List Value → List Nat → List Nat → Prop} {n : Nat} {xs : List α} {cs : List Value} {O R : List Nat} (h : RepL f xs cs O R) (hf : ∀ x c O1 R1, f x c O1 R1 → c.length = n) (k : Nat) :
    ∃ O1 O2 R1 R2, O = O1 ++ O2 ∧ R = R1 ++ R2 ∧ RepL f (xs.take k) (cs.take (k * n)) O1 R1 ∧ RepL f (xs.drop k) (cs.drop (k * n)) O2 R2 := by
  induction k generalizing xs cs O R with
  | zero => exact ⟨[], O, [], R, rfl, rfl, by simp [RepL], by simpa using h⟩
  | succ k ih =>
    cases xs with
    | nil => obtain ⟨rfl, rfl, rfl⟩ := h; exact ⟨[], [], [], [], rfl, rfl, by simp [RepL], by simp [RepL]⟩
    | cons x xs =>
      obtain ⟨c1, c2, O1, O2, R1, R2, rfl, rfl, rfl, h1, h2⟩ := h
      obtain ⟨P1, P2, Q1, Q2, rfl, rfl, h3, h4⟩ := ih h2
      have l1 := hf _ _ _ _ h1
      refine ⟨O1 ++ P1, P2, R1 ++ Q1, Q2, by simp, by simp, ⟨c1, c2.take (k * n), O1, P1, R1, Q1, ?_, rfl, rfl, h1, h3⟩, ?_⟩
      · rw [Nat.succ_mul, List.take_append, l1, List.take_of_length_le (by omega)]; congr 2; simp
      · rw [Nat.succ_mul, List.drop_append, l1, List.drop_of_length_le (l := c1) (by omega), List.nil_append, show k * n + n - n = k * n by omega]; exact h4

theorem ro_slice {e : Ty} {xs : List e.den} {x : Value} {R' : List Nat} (h : Rep w (.sl e) .ro xs [x] [] R') {A B : Nat} (hAB : A ≤ B) (hB : B ≤ xs.length) :
    ∃ p cap, x = .slice p xs.length cap ∧ xs.length ≤ cap ∧
      ∃ R2, Rep w (.sl e) .ro ((xs.take B).drop A) [.slice (if cap = A then p else p.map (·.add (A * e.sz))) (B - A) (cap - A)] [] R2 ∧ ∀ b ∈ R2, b ∈ R' := by
  rcases h.2 with ⟨rfl, rfl, p, cap, hx⟩ | ⟨b, off, cap, cells, R1, hx, h0, hm, hu, rfl, hl⟩
  · simp at hx hB
    subst hB
    obtain rfl : A = 0 := by omega
    exact ⟨p, cap, by simpa using hx, by simp, [], ⟨rfl, .inl ⟨rfl, by simp, _, _, rfl⟩⟩, by simp⟩
  · simp at hx
    refine ⟨_, cap, hx, hm.2, ?_⟩
    have hlen : ∀ (x : e.den) (c : List Value) (O1 R1 : List Nat), Rep w e .ro x c O1 R1 → c.length = e.sz := fun x c O1 R1 h => h.len.1
    rcases Nat.lt_or_ge A B with hlt | hge
    · obtain ⟨O1, O2, Ra, Rb, hO, rfl, h1, h2⟩ := hl.cut hlen B
      obtain ⟨rfl, rfl⟩ : O1 = [] ∧ O2 = [] := by simpa using hO.symm
      obtain ⟨O3, O4, Rc, Rd, hO', rfl, h3, h4⟩ := h1.cut hlen A
      obtain ⟨rfl, rfl⟩ : O3 = [] ∧ O4 = [] := by simpa using hO'.symm
      refine ⟨b :: Rd, ⟨rfl, .inr ⟨b, off + A * e.sz, cap - A, _, Rd, ?_, ?_, ⟨?_, ?_⟩, ?_, rfl, h4⟩⟩, by intro b' hb'; simp only [List.mem_cons, List.mem_append] at hb' ⊢; grind⟩
      · rw [if_neg (by omega)]
        simp [Addr.add_lit]; omega
      · simp <;> omega
      · simp <;> omega
      · simp <;> omega
      · intro j u hj
        rw [List.getElem?_drop] at hj
        have := hu (A * e.sz + j) u (by rw [List.getElem?_take] at hj; split at hj; exact hj; cases hj)
        rwa [← Nat.add_assoc] at this
    · obtain rfl : A = B := by omega
      refine ⟨[], ⟨rfl, .inl ⟨rfl, ?_, _, _, by rw [Nat.sub_self]⟩⟩, by simp⟩
      apply List.eq_nil_of_length_eq_zero
      simp <;> omega

theorem sliceAct_ok {T : Tab} (hT : TabOk P T) (h : Rel w env tmps Of Rf) (hod : o.dst = some d) (hd : d < env.length) {t : TypeId} {x : Operand} {lo hi : Option Operand} (ho : o.op = .slice t x lo hi none)
    {l? h? : Option Int} (hlo : optInt env lo = some l?) (hhi : optInt env hi = some h?) : OpOk P w env tmps Of Rf o (sliceAct T env d t (opnd env x) l? h?) := by
  obtain ⟨R', hs, hR⟩ := opnd_ok h x
  have hoi : ∀ {x : Option Operand} {n? : Option Int}, optInt env x = some n? → x.map (Go.Act.eval ⟨tmps, []⟩) = n?.map (fun n => .int .i64 n) := by
    intro x n? hx
    unfold optInt at hx
    split at hx
    · cases hx; rfl
    · split at hx
      · rename_i X _ a n hX
        cases hx
        simp [(opnd_int h hX).1]
      · cases hx
  have hl := hoi hlo
  have hh := hoi hhi
  clear hoi
  have hrun : ∀ {ti : TI} {e : Ty} {p : Option Addr} {n cap : Nat}, T.at t = some ti → ti.ty = .sl e → Go.Act.eval ⟨tmps, []⟩ x = .slice p n cap → n ≤ cap →
      (0 ≤ l?.getD 0 ∧ l?.getD 0 ≤ h?.getD (n : Int) ∧ h?.getD (n : Int) ≤ (n : Int)) →
      (execOp (Go.Act.eval ⟨tmps, []⟩) o).run P w = .ok (.value (.slice (if cap = (l?.getD 0).toNat then p else p.map (·.add ((l?.getD 0).toNat * e.sz))) (h?.getD (n : Int) - l?.getD 0).toNat (cap - (l?.getD 0).toNat))) w := by
    intro ti e p n cap hti hty hx hnc ⟨h0, h1, h2⟩
    obtain ⟨el, ae, hu, -, i, z, hi, hsz, -⟩ := sl_und hT hti hty
    have hsz' : (sizeOf el).run P w = .ok e.sz w := by simp [sizeOf, typeInfo, hi, hsz]
    have hat : ∀ lo hi : Option Value, (Instr.sliceAt t (.slice p n cap) lo hi none).run P w = (Instr.slice t (.slice p n cap) lo hi none).run P w := by
      intro lo hi; simp [Instr.sliceAt, run_underlying hu]
    simp only [execOp, ho, hl, hh, hx]
    simp only [Sem.run_bind, Option.map_none, hat]
    cases l? with
    | none =>
      cases h? with
      | none =>
        simp [Instr.slice, run_underlying hu, Instr.sliceBounds, hsz']
      | some b =>
        simp at h0 h1 h2
        simp [Instr.slice, run_underlying hu, Instr.sliceBounds, Instr.sliceBound, asIntOf, hsz', h1, show b ≤ (cap : Int) by omega]
    | some a =>
      cases h? with
      | none =>
        simp at h0 h1 h2
        simp [Instr.slice, run_underlying hu, Instr.sliceBounds, Instr.sliceBound, asIntOf, hsz', h0, h1]
        omega
      | some b =>
        simp at h0 h1 h2
        simp [Instr.slice, run_underlying hu, Instr.sliceBounds, Instr.sliceBound, asIntOf, hsz', h0, show 0 ≤ b by omega, show b ≤ (cap : Int) by omega, show a ≤ max b 0 by omega]
        omega
  unfold sliceAct
  split
  · rename_i ti l cut hti hx
    rw [hx] at hs
    split
    · rename_i e el ae xs e' hrd hty
      cases hc : ((e.sz == e'.sz && cutSz cut e.sz) && (cutLo cut == 0)) with
      | false => exact OpOk.bad
      | true =>
        simp only [cond_true]
        simp at hc
        obtain ⟨cs1, bk, hd', O1, R1, hxv, hck, hloc, hcs, hrep, -, -, -⟩ := rdR_ok h hs.2.2 hrd
        obtain ⟨⟨p, cap, hh⟩, hm⟩ := hdr_len hrep (by simp)
        obtain ⟨p', cap', hcv, hle⟩ := cutL_len hh hck
        have hcap : xs.length ≤ cap := by
          rcases own_hdr (xs := xs) hrep with ⟨h1, h2⟩ | ⟨g, cap2, cur, cells, O', h1, -, h2, -⟩
          · rw [h2]; simp
          · rw [hh] at h1; cases h1; exact h2
        -- a prefix keeps its place
        have hpc : p' = p ∧ cap' = cap := by
          subst hh
          cases cut with
          | none => simp [cutV] at hcv; exact ⟨hcv.1.symm, hcv.2.2.symm⟩
          | some c =>
            obtain ⟨lo', n', z'⟩ := c
            have : lo' = 0 := by simpa [cutLo] using hc.2
            subst this
            simp [cutV] at hcv
            refine ⟨?_, hcv.2.2.symm⟩
            have h5 := hcv.1
            split at h5
            · exact h5.symm
            · rw [← h5]; cases p <;> simp [Addr.add]
        obtain ⟨rfl, rfl⟩ := hpc
        refine OpOk.put0 h hod hd fun hp => ?_
        have hp' := hp _ rfl
        have hr := hrun (n := (cutL xs cut).length) hti hty (by rw [hxv, hcv]) (by have := cutL_le xs cut; omega) hp'
        refine ⟨by simp, _, [], hr, ⟨rfl, rfl, hs.2.2.1, fun _ => ⟨cs1, bk, hd', hloc, hcs, ?_, ?_⟩⟩, by simp⟩
        · have e1 : ∀ (A B : Int) (m k : Nat), 0 ≤ A → A ≤ B → B ≤ m → m ≤ k → A.toNat + (B - A).toNat ≤ k := by intro A B m k h0 h1 h2 h3; omega
          exact ⟨_, _, _, hh, e1 _ _ _ _ hp'.1 hp'.2.1 hp'.2.2 (cutL_le xs cut)⟩
        · rw [hh]
          simp only [cutV, hc.1.1]
    · exact OpOk.bad
  · rename_i ti e xs hti hx
    rw [hx] at hs
    split
    · rename_i e' hty
      cases hc : (e.sz == e'.sz) with
      | false => exact OpOk.bad
      | true =>
        simp only [cond_true]
        simp at hc
        refine OpOk.put0 h hod hd fun hp => ?_
        have hp' := hp _ rfl
        have hrep : Rep w (.sl e) .ro xs [Go.Act.eval ⟨tmps, []⟩ x] [] R' := ro_hdr rfl hs
        obtain ⟨A, B, hA, hB, hAB, hBn, hxs⟩ : ∃ A B : Nat, l?.getD 0 = (A : Int) ∧ h?.getD (((xs : List e.den).length : Nat) : Int) = (B : Int) ∧ A ≤ B ∧ B ≤ (xs : List e.den).length ∧
            roCut (xs : List e.den) l? h? = (((xs : List e.den).take B).drop A : List e.den) := by
          obtain ⟨A, hA⟩ := Int.eq_ofNat_of_zero_le hp'.1
          obtain ⟨B, hB⟩ := Int.eq_ofNat_of_zero_le (Int.le_trans hp'.1 hp'.2.1)
          refine ⟨A, B, hA, hB, by omega, by omega, ?_⟩
          cases h? with
          | none =>
            have hB' : (xs : List e.den).length = B := Int.ofNat.inj hB
            simp only [roCut, hA, Int.toNat_natCast]
            rw [← hB', List.take_length]
          | some b =>
            have hB' : b = (B : Int) := hB
            simp only [roCut, hA, hB', Int.toNat_natCast]
        have hroc := ro_slice hrep hAB hBn
        obtain ⟨p, cap, hh, hnc, H⟩ := hroc
        have hr := hrun hti hty hh hnc hp'
        rw [hA, hB] at hr
        have e2 : ((B : Int) - (A : Int)).toNat = B - A := by omega
        rw [e2, Int.toNat_natCast, ← hc] at hr
        obtain ⟨R2, hR2, hsub⟩ := H
        rw [hxs]
        exact ⟨by simp, _, R2, hr, ⟨_, rfl, hR2⟩, fun b hb => hR b (hsub b hb)⟩
    · exact OpOk.bad
  · exact OpOk.bad

end
end Go.Vm

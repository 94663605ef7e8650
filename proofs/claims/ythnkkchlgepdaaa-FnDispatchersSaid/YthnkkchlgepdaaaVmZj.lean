/- A FUNCTION'S FORMULA IS ITS CONTRACT, for the evaluator Vm. Own work; lemmas. No condition. -/
import Derived.Test.YthnkkchlgepdaaaVmZi
namespace Go.Vm
open Go.RowKit
set_option linter.unusedVariables false

section
variable {P : Program} {w : World} {env : Env} {tmps : Array Value} {Of Rf : Nat → List Nat} {o : Oper} {d : Nat}

/-- the results are there, and the world is as the contract tells -/
def Ret (P : Program) (fn : Func) (sg : Sig) (Post : sg.resT.den → sg.outT.den → Prop) (w0 : World) (O0 R0 : List Nat) (vs0 : List Value) (tmps : Array Value) (w : World) : Prop :=
  ∃ v, (results fn tmps).run P w = .ok v w ∧ ∃ r o O1 R1 O2 R2, Post r o ∧
      ResRep w sg.res (unt (sg.res.map (·.1)) r) v O1 R1 ∧ OutsRep w sg.pars (unt (sg.pars.flatMap Par.outT) o) vs0 O2 R2 ∧
      (O1 ++ O2).Nodup ∧ (∀ b ∈ O1 ++ O2, b ∉ R1 ++ R2) ∧ (∀ b ∈ O1 ++ O2, b ∈ O0 ∨ w0.heap.size ≤ b) ∧ (∀ b ∈ R1 ++ R2, b ∈ O0 ∨ b ∈ R0 ∨ w0.heap.size ≤ b) ∧
      (∀ b, b < w0.heap.size → b ∉ O0 → w.heap[b]? = w0.heap[b]?) ∧ Wld w0 w

theorem cellV_ok {T : Tab} (hT : TabOk P T) (h : Rel w env tmps Of Rf) {s : Nat} {t : TypeId} {v : V} (hv : cellV T env s t = some v) :
    ∃ x R', (do loadVar t (← asAddr (tmps.getD s undef)) : Sem Value).run P w = .ok x w ∧ SlotOk w env tmps v x [] R' ∧ ∀ b ∈ R', ∃ s, b ∈ Rf s := by
  unfold cellV at hv
  split at hv
  case h_2 => cases hv
  rename_i ti ht
  split at hv
  case h_2 => cases hv
  rename_i t0 a0 x0 hbox
  simp only [Option.bind_eq_some_iff] at hv
  obtain ⟨dd, hrd, hv⟩ := hv
  cases hpp : (dd.t.isPair == ti.ty.isPair) with
  | false => rw [hpp] at hv; cases hv
  | true =>
    rw [hpp] at hv
    simp only [cond_true, Option.some.injEq] at hv
    have hpp' : dd.t.isPair = ti.ty.isPair := by simpa using hpp
    obtain ⟨R0, hs0, -⟩ := slotV_ok h s
    have hsv : slotV (get env s) s = .ptr ⟨s, (get env s).now, [], 0⟩ := by unfold slotV; rw [hbox]
    rw [hsv] at hs0
    have hp : PtrOk w env tmps ⟨s, (get env s).now, [], 0⟩ (tv tmps s) := hs0.2.2
    generalize hl : (⟨s, (get env s).now, [], 0⟩ : Lk) = l at hrd hp
    obtain ⟨b, k, C, el, cs1, cs, O1, R1, he, hb, hbO, hloc, hj, hcs, hlen, hle, hn, hr, hO1, hR1⟩ := rdP_ok h hp hrd
    obtain ⟨x, hrun, hk⟩ := run_loadVar (P := P) (w := w) (hT t ti ht).1 (b := b) (o := k + l.off) (cs := cs) hlen (fun j u hju => by
      rw [cell_at hb]
      rw [hcs, List.getElem?_take] at hju
      split at hju
      · rw [List.getElem?_drop] at hju; exact hju
      · cases hju)
    have hk' : Packed dd.t cs x := by
      cases hdt : dd.t <;> cases hty : ti.ty <;> simp [Ty.isPair, hdt, hty] at hpp' <;> (rw [hty] at hk; exact hk)
    obtain ⟨R2, hs2, hR2⟩ := seen_ok (w := w) (env := env) (tmps := tmps) hr hk' (mk := fun o => ⟨l.s, (get env l.s).now, l.st, l.off + o⟩) (fun j u hju hsl => ⟨Nat.le_refl _, fun _ => ⟨cs1, some (b, k), u, hloc, (by
      rw [hj j (by rw [← hlen]; exact (List.getElem?_eq_some_iff.1 hju).1)]
      rw [hcs, List.getElem?_take] at hju
      split at hju
      · rw [List.getElem?_drop] at hju; exact hju
      · cases hju), hsl, rfl⟩⟩)
    have hseen : seen dd (fun o => ⟨l.s, (get env l.s).now, l.st, l.off + o⟩) = v := by
      rw [← hv, ← hl]
      simp only [Nat.zero_add]
    rw [hseen] at hs2
    refine ⟨x, R2, ?_, hs2, fun b hb' => ⟨l.s, hR1 b (hR2 b hb')⟩⟩
    have he' : tmps.getD s undef = .pointer (some ⟨b, k + l.off, none⟩) := he
    rw [he']
    simp [asAddr, hrun]

theorem run_results {T : Tab} (hT : TabOk P T) (h : Rel w env tmps Of Rf) {fn : Func} {vs : List V} (hv : resVs T env fn.results.toList = some vs) :
    ∃ xs : List Value, xs.length = vs.length ∧ (results fn tmps).run P w = .ok (if h : xs.length = 1 then xs[0] else .tuple xs.toArray) w ∧
      ∀ (j : Nat) (v : V), vs[j]? = some v → ∃ x R', xs[j]? = some x ∧ SlotOk w env tmps v x [] R' ∧ ∀ b ∈ R', ∃ s, b ∈ Rf s := by
  have gen : ∀ (f : ResultVar → Sem Value), (∀ t, f (.tmp t) = pure (tv tmps t)) → (∀ a t, f (.cell a t) = (do loadVar t (← asAddr (tmps.getD a undef)))) → ∀ (L : List ResultVar) (vs : List V), resVs T env L = some vs →
      ∃ xs : List Value, xs.length = vs.length ∧ (List.mapM f L).run P w = .ok xs w ∧ ∀ (j : Nat) (v : V), vs[j]? = some v → ∃ x R', xs[j]? = some x ∧ SlotOk w env tmps v x [] R' ∧ ∀ b ∈ R', ∃ s, b ∈ Rf s := by
    intro f hf1 hf2 L
    induction L with
    | nil =>
      intro vs hv
      simp [resVs] at hv
      subst hv
      exact ⟨[], rfl, by simp, by simp⟩
    | cons r L ih =>
      intro vs hv
      have step : ∀ (v : V) (vs' : List V) (x : Value) (R' : List Nat), vs = v :: vs' → resVs T env L = some vs' → (f r).run P w = .ok x w → SlotOk w env tmps v x [] R' → (∀ b ∈ R', ∃ s, b ∈ Rf s) →
          ∃ xs : List Value, xs.length = vs.length ∧ (List.mapM f (r :: L)).run P w = .ok xs w ∧ ∀ (j : Nat) (v : V), vs[j]? = some v → ∃ x R', xs[j]? = some x ∧ SlotOk w env tmps v x [] R' ∧ ∀ b ∈ R', ∃ s, b ∈ Rf s := by
        intro v vs' x R' hvs hL hx hs hR
        obtain ⟨xs, h1, h2, h3⟩ := ih vs' hL
        subst hvs
        refine ⟨x :: xs, by simp [h1], ?_, fun j v' hj => ?_⟩
        · rw [List.mapM_cons]
          simp only [Sem.run_bind, hx, Result.andThen_ok, h2, Sem.run_pure]
        · cases j with
          | zero => simp at hj; subst hj; exact ⟨x, R', rfl, hs, hR⟩
          | succ j => simpa using h3 j v' (by simpa using hj)
      cases r with
      | tmp t =>
        simp only [resVs, Option.map_eq_some_iff] at hv
        obtain ⟨vs', hL, rfl⟩ := hv
        obtain ⟨R', h1, h2⟩ := opnd_ok h (.tmp t)
        exact step _ vs' (tv tmps t) R' rfl hL (by rw [hf1]; simp) h1 h2
      | cell a t =>
        simp only [resVs, Option.bind_eq_some_iff, Option.map_eq_some_iff] at hv
        obtain ⟨v, hc, vs', hL, rfl⟩ := hv
        obtain ⟨x, R', h1, h2, h3⟩ := cellV_ok hT h hc
        exact step _ vs' x R' rfl hL (by rw [hf2]; exact h1) h2 h3
  have hfr : fn.results = fn.results.toList.toArray := by simp
  unfold results
  rw [hfr, List.mapM_toArray]
  simp only [Sem.run_bind, Sem.run_map, Sem.run_pure]
  obtain ⟨xs, h1, h2, h3⟩ := gen (fun
    | .tmp t => pure (tmps.getD t undef)
    | .cell a t => do loadVar t (← asAddr (tmps.getD a undef))) (fun t => rfl) (fun a t => rfl) fn.results.toList vs hv
  refine ⟨xs, h1, ?_, h3⟩
  refine Eq.trans (congrArg (fun r => Result.andThen (Result.andThen r (fun a w' => Result.ok a.toArray w')) (fun a w' => Result.ok (if h : a.size = 1 then a[0] else Value.tuple a) w')) h2) ?_
  simp only [Result.andThen_ok, List.size_toArray]
  congr 1

theorem OutsRep.types : ∀ (ps : List Par) {ds : List (Σ t : Ty, t.den)} {vs : List Value} {O R : List Nat}, OutsRep w ps ds vs O R → ds.map (·.1) = ps.flatMap Par.outT
  | [], ds, vs, O, R, h => by obtain ⟨rfl, -⟩ := h; rfl
  | p :: ps, ds, vs, O, R, h => by
    obtain ⟨d1, d2, v, vs', O1, O2, R1, R2, rfl, rfl, rfl, rfl, h1, h2⟩ := h
    rw [List.map_append, List.flatMap_cons, OutsRep.types ps h2]
    congr 1
    cases p with
    | val t a => obtain ⟨rfl, -⟩ := h1; rfl
    | io t a => obtain ⟨x, rfl, -⟩ := h1; rfl
    | iol e el a => obtain ⟨x, rfl, -⟩ := h1; rfl
    | fn f caps => obtain ⟨vs, -, h, -⟩ := h1; exact h

theorem evRet_ok {T : Tab} (hT : TabOk P T) {fn : Func} {sg : Sig} {Post : sg.resT.den → sg.outT.den → Prop} {w0 : World} {O0 R0 : List Nat} {vs0 : List Value} (h : Rel w env tmps Of Rf)
    (f : Fr w0 O0 R0 (keepOf 0 sg.pars) (fun s => vs0.getD s undef) w tmps Of Rf) (hl : vs0.length = sg.pars.length) (he : evRet T sg fn Post env) : Ret P fn sg Post w0 O0 R0 vs0 tmps w := by
  unfold evRet at he
  split at he
  case h_2 => exact he.elim
  rename_i vs hvs
  split at he
  case h_2 => exact he.elim
  rename_i ds e hres
  split at he
  case h_2 => exact he.elim
  rename_i r o hr ho
  obtain ⟨xs, hxl, hxr, hxs⟩ := run_results hT h hvs
  obtain ⟨Os, Rs, O1, R1, Of1, Rf1, ws, i1, i2, i3, i4, i5, i6, i7⟩ := takeRes_ok h sg.res _ xs (Tk.none h (R1 := []) (by simp)) hres hxl hxs
  simp only [List.nil_append] at i3
  have hcl := Tk.clean h i3
  simp only [Option.bind_eq_some_iff] at ho
  obtain ⟨ds2, ho1, ho2⟩ := ho
  obtain ⟨Oo, Ro, j1, j2, j3, j4, j5⟩ := takeOuts_ok i3.rel sg.pars 0 vs0 ho1 hl (fun s hs => by simpa using f.kp s hs)
  have hl1 : ds.length = (sg.res.map (·.1)).length := by have := congrArg List.length i2; simpa using this
  have hl2 : ds2.length = (sg.pars.flatMap Par.outT).length := by have := congrArg List.length (OutsRep.types _ j1); simpa using this
  have u1 := unt_tie _ _ r hr hl1
  have u2 := unt_tie _ _ o ho2 hl2
  refine ⟨_, hxr, r, o, Os, Rs, Oo, Ro, he, ?_, by rw [u2]; exact j1, ?_, ?_, ?_, ?_, f.blk, f.wld⟩
  · rw [u1]
    have hlen : xs.length = sg.res.length := by
      have h1 : (toDats sg.res ds).length = sg.res.length := by
        have : ∀ (rs : List (Ty × An)) (ds : List (Σ t : Ty, t.den)), ds.length = rs.length → (toDats rs ds).length = rs.length := by
          intro rs
          induction rs with
          | nil => intro ds h; cases ds <;> simp [toDats] at h ⊢
          | cons r rs ih =>
            intro ds h
            cases ds with
            | nil => simp at h
            | cons d ds => obtain ⟨t, a⟩ := r; obtain ⟨u, x⟩ := d; simp only [toDats, List.length_cons]; rw [ih ds (by simpa using h)]
        exact this _ _ (by simpa using hl1)
      have h2 : ∀ {D : List Dat} {xs : List Value} {O R : List Nat}, RepL (RepOne w) D xs O R → xs.length = D.length := by
        intro D
        induction D with
        | nil => intro xs O R h; obtain ⟨rfl, -⟩ := h; rfl
        | cons d D ih =>
          intro xs O R h
          obtain ⟨c1, c2, _, _, _, _, rfl, _, _, ⟨x, cs, rfl, -⟩, h2⟩ := h
          simp [ih h2]
      rw [h2 i1, h1]
    unfold ResRep
    split
    · rename_i t a hrs
      rw [hrs] at hlen i1 i2
      match xs, hlen, i1 with
      | [t1], _, i1 =>
        match ds, i2, i1 with
        | [⟨u, x⟩], i2, i1 =>
          simp only [List.map_cons, List.map_nil, List.cons.injEq, and_true] at i2
          have i2 : u = t := i2
          subst i2
          simp only [toDats, List.map_cons, List.map_nil] at i1
          obtain ⟨c1, c2, O1', O2', R1', R2', hc, rfl, rfl, ⟨y, cs, rfl, hk, hrep⟩, ⟨rfl, rfl, rfl⟩⟩ := i1
          simp at hc
          subst hc
          exact ⟨x, cs, rfl, by simpa using hk, by simpa using hrep⟩
    · rename_i hne
      refine ⟨xs, ?_, i2, i1⟩
      have : ¬ xs.length = 1 := by
        rw [hlen]
        intro h1
        match hrs : sg.res, h1 with
        | [(t, a)], _ => exact hne t a hrs
      rw [dif_neg this]
  · rw [List.nodup_append]
    refine ⟨i4, j2, fun b hb c hc e => ?_⟩
    subst e
    obtain ⟨s, -, hs⟩ := j3 b hc
    exact i3.gone b (i5 b hb) s hs
  · intro b hb hb'
    rcases List.mem_append.1 hb with hb | hb
    · rcases List.mem_append.1 hb' with hb' | hb'
      · exact i7 b hb hb'
      · obtain ⟨s, hs⟩ := j4 b hb'
        rcases hs with ⟨-, hs⟩ | hs
        · exact i3.gone b (i5 b hb) s hs
        · exact hcl.1 b (i5 b hb) s hs
    · obtain ⟨s, -, hs⟩ := j3 b hb
      rcases List.mem_append.1 hb' with hb' | hb'
      · rcases i6 b hb' with hx | hx
        · exact hcl.2.2 b hx s hs
        · exact i3.gone b hx s hs
      · exact j5 b hb hb'
  · intro b hb
    rcases List.mem_append.1 hb with hb | hb
    · obtain ⟨s, hs⟩ := i3.fromO b (i5 b hb); exact f.own s b hs
    · obtain ⟨s, -, hs⟩ := j3 b hb; exact f.own s b (i3.subO s b hs)
  · intro b hb
    have own2 : ∀ s b, b ∈ Of s → b ∈ O0 ∨ b ∈ R0 ∨ w0.heap.size ≤ b := fun s b hs => (f.own s b hs).elim .inl fun h => .inr (.inr h)
    rcases List.mem_append.1 hb with hb | hb
    · rcases i6 b hb with hx | hx
      · obtain ⟨s, hs⟩ := i3.fromR b hx; exact f.rd s b hs
      · obtain ⟨s, hs⟩ := i3.fromO b hx; exact own2 s b hs
    · obtain ⟨s, hs⟩ := j4 b hb
      rcases hs with ⟨-, hs⟩ | hs
      · exact own2 s b (i3.subO s b hs)
      · exact f.rd s b (i3.subR s b hs)

/-- WHAT IS STILL TO DO, from any such frame, ends as the contract tells. -/
def Run (P : Program) (fn : Func) (sg : Sig) (Post : sg.resT.den → sg.outT.den → Prop) (todo : List Item) (env : Env) : Prop :=
  ∀ (w0 : World) (O0 R0 : List Nat) (vs0 : List Value) (w : World) (tmps : Array Value) (Of Rf : Nat → List Nat), vs0.length = sg.pars.length → Rel w env tmps Of Rf →
    Fr w0 O0 R0 (keepOf 0 sg.pars) (fun s => vs0.getD s undef) w tmps Of Rf → ∀ (b : Frame) (cs : List Frame),
      ∃ tmps' w' todo', Ret P fn sg Post w0 O0 R0 vs0 tmps' w' ∧ Steps P (lone (b.at ⟨tmps, []⟩ todo) cs w) (lone { b.at ⟨tmps', []⟩ todo' with mode := .returning } cs w')

theorem Run.head {fn : Func} {sg : Sig} {Post : sg.resT.den → sg.outT.den → Prop} {todo todo' : List Item} {env : Env}
    (hs : ∀ (w : World) (tmps : Array Value) (Of Rf : Nat → List Nat), Rel w env tmps Of Rf → ∀ (b : Frame) (cs : List Frame), step P (lone (b.at ⟨tmps, []⟩ todo) cs w) = .next (lone (b.at ⟨tmps, []⟩ todo') cs w)) (h : Run P fn sg Post todo' env) : Run P fn sg Post todo env := by
  intro w0 O0 R0 vs0 w tmps Of Rf hl hr f b cs
  obtain ⟨tmps', w', td, h1, h2⟩ := h w0 O0 R0 vs0 w tmps Of Rf hl hr f b cs
  exact ⟨tmps', w', td, h1, .head (hs w tmps Of Rf hr b cs) h2⟩

theorem Run.norm {fn : Func} {sg : Sig} {Post : sg.resT.den → sg.outT.den → Prop} {todo : List Item} {env : Env} {live : Live} (h : Run P fn sg Post todo (norm live env)) : Run P fn sg Post todo env := by
  intro w0 O0 R0 vs0 w tmps Of Rf hl hr f b cs
  obtain ⟨Of', Rf', h1, h2, h3⟩ := norm_ok hr live
  refine h w0 O0 R0 vs0 w tmps Of' Rf' hl h1 ⟨f.wld, f.blk, fun s b hb => f.own s b (h2 s b hb), fun s b hb => ?_, f.kp⟩ b cs
  rcases h3 s b hb with h4 | h4
  · exact (f.own s b h4).elim .inl fun h => .inr (.inr h)
  · exact f.rd s b h4

theorem evT_sound {T : Tab} {S : SigTab} {al : List Nat} (hT : TabOk P T) (hS : SigOk P S) (hm : P.follows .mixedOrders = true) {fn : Func} {sg : Sig} {Post : sg.resT.den → sg.outT.den → Prop} {cuts : Cuts} :
    ∀ (n : Nat) (first : Bool) (todo : List Item) (env : Env), evT (cxOf T S al sg) (CallsT P) sg fn Post cuts (Run P fn sg Post) n first todo env → Run P fn sg Post todo env := by
  intro n
  induction n with
  | zero => intro first todo env h; exact h.elim
  | succ n ih =>
    intro first todo env h
    have ret : ∀ {todo : List Item}, evRet T sg fn Post env → (∀ (w : World) (tmps : Array Value) (b : Frame) (cs : List Frame), step P (lone (b.at ⟨tmps, []⟩ todo) cs w) = .next (lone { b.at ⟨tmps, []⟩ todo with mode := .returning } cs w)) → Run P fn sg Post todo env := by
      intro todo he hs w0 O0 R0 vs0 w tmps Of Rf hl hr f b cs
      exact ⟨tmps, w, todo, evRet_ok hT hr f hl he, .one (hs w tmps b cs)⟩
    unfold evT at h
    split at h
    · exact ret h fun w tmps b cs => step_end
    · rename_i k
      exact (ih _ _ _ h).head fun w tmps Of Rf hr b cs => step_skip
    · rename_i x y k
      exact (ih _ _ _ h).head fun w tmps Of Rf hr b cs => step_seq
    · rename_i c x y k
      split at h
      · rename_i t hc
        have hstep : ∀ (w : World) (tmps : Array Value) (Of Rf : Nat → List Nat), Rel w env tmps Of Rf → (Go.Act.eval ⟨tmps, []⟩ c) = .bool t := by
          intro w tmps Of Rf hr
          obtain ⟨R', h1, -⟩ := opnd_ok hr c
          rw [hc] at h1
          obtain ⟨cs, hk, hrep⟩ := h1
          have hcs : cs = [Go.Act.eval ⟨tmps, []⟩ c] := hk
          subst hcs
          obtain ⟨-, -, hcs2⟩ := hrep
          simpa using hcs2
        have hgo : ∀ (w : World) (tmps : Array Value) (Of Rf : Nat → List Nat), Rel w env tmps Of Rf → ∀ (b : Frame) (cs : List Frame),
            step P (lone (b.at ⟨tmps, []⟩ (.code (.cond c x y) :: k)) cs w) = .next (lone (b.at ⟨tmps, []⟩ (.code (if t then x else y) :: k)) cs w) :=
          fun w tmps Of Rf hr b cs => step_cond (hstep w tmps Of Rf hr)
        cases t with
        | true => exact (ih _ _ _ h).head hgo
        | false => exact (ih _ _ _ h).head hgo
      · exact h.elim
    · exact (ih _ _ _ h).head fun w tmps Of Rf hr b cs => step_block
    · exact (ih _ _ _ h).head fun w tmps Of Rf hr b cs => step_inBlock
    · exact (ih _ _ _ h).head fun w tmps Of Rf hr b cs => step_loop
    · exact (ih _ _ _ h).head fun w tmps Of Rf hr b cs => step_inLoop
    · rename_i id k
      split at h
      · rename_i k' hk
        exact (ih _ _ _ h).head fun w tmps Of Rf hr b cs => step_exit hk
      · exact h.elim
    · exact ret h fun w tmps b cs => step_ret
    · rename_i id ops draw k
      split at h
      · exact h.norm
      · intro w0 O0 R0 vs0 w tmps Of Rf hl hr f b cs
        have hwp := evRegion_sound (P := P) (cx := cxOf T S al sg) hT hS hm (id := id)
          (Q := fun e a w' => e = .normal ∧ a.defers = [] ∧ ∃ env' Of' Rf', Rel w' env' a.tmps Of' Rf' ∧ Fr w0 O0 R0 (keepOf 0 sg.pars) (fun s => vs0.getD s undef) w' a.tmps Of' Rf' ∧
            evT (cxOf T S al sg) (CallsT P) sg fn Post cuts (Run P fn sg Post) n false k env') (fun w' tmps' env' Of' Rf' h1 h2 h3 h4 => ⟨rfl, rfl, env', Of', Rf', h1, h2, h4⟩) hr f h
        obtain ⟨e, a', w', ⟨rfl, hdf, env', Of', Rf', h1, h2, h3⟩, harr⟩ := hwp b k cs
        obtain ⟨tm, df⟩ := a'
        have hdf : df = [] := hdf
        subst hdf
        obtain ⟨tmps', w'', td, k1, k2⟩ := ih _ _ _ h3 w0 O0 R0 vs0 w' tm Of' Rf' hl h1 h2 b cs
        exact ⟨tmps', w'', td, k1, Steps.trans harr k2⟩
    · exact h.elim

theorem entry_slots : ∀ (ps : List Par) {ds : List (Σ t : Ty, t.den)} {vs : List Value} {O R : List Nat}, ArgsRep w ps ds vs O R →
    ∃ Os Rs : List (List Nat), O = Os.flatten ∧ R = Rs.flatten ∧ Os.length = ps.length ∧ Rs.length = ps.length ∧ (entryVs ps ds).length = ps.length ∧ vs.length = ps.length ∧
      ∀ j v, (entryVs ps ds)[j]? = some v → ∀ e tm, SlotOk w e tm v (vs.getD j undef) (Os.getD j []) (Rs.getD j [])
  | [], ds, vs, O, R, h => by
    obtain ⟨rfl, rfl, rfl, rfl⟩ := h
    exact ⟨[], [], rfl, rfl, rfl, rfl, rfl, rfl, by simp [entryVs]⟩
  | p :: ps, ds, vs, O, R, h => by
    obtain ⟨d1, d2, v, vs', O1, O2, R1, R2, rfl, rfl, rfl, rfl, h1, h2⟩ := h
    obtain ⟨Os, Rs, i1, i2, i3, i4, i5, i6, i7⟩ := entry_slots ps h2
    have step : ∀ v0, entryVs (p :: ps) (d1 ++ d2) = v0 :: entryVs ps d2 → (∀ e tm, SlotOk w e tm v0 v O1 R1) → ∃ Os Rs : List (List Nat), O1 ++ O2 = Os.flatten ∧ R1 ++ R2 = Rs.flatten ∧ Os.length = (p :: ps).length ∧ Rs.length = (p :: ps).length ∧ (entryVs (p :: ps) (d1 ++ d2)).length = (p :: ps).length ∧ (v :: vs').length = (p :: ps).length ∧
      ∀ j v1, (entryVs (p :: ps) (d1 ++ d2))[j]? = some v1 → ∀ e tm, SlotOk w e tm v1 ((v :: vs').getD j undef) (Os.getD j []) (Rs.getD j []) := by
      intro v0 he hs
      refine ⟨O1 :: Os, R1 :: Rs, by simp [i1], by simp [i2], by simp [i3], by simp [i4], by rw [he]; simp [i5], by simp [i6], fun j v1 hj e tm => ?_⟩
      rw [he] at hj
      cases j with
      | zero => simp at hj; subst hj; simpa using hs e tm
      | succ j => simpa using i7 j v1 (by simpa using hj) e tm
    cases p with
    | val t a => obtain ⟨x, cs, rfl, hk, hr⟩ := h1; exact step _ rfl fun e tm => ⟨cs, hk, hr⟩
    | io t a => obtain ⟨x, rfl, hb⟩ := h1; exact step _ rfl fun e tm => hb
    | iol e el a => obtain ⟨x, rfl, hr⟩ := h1; exact step _ rfl fun _ tm => ⟨[v], rfl, hr⟩
    | fn f caps =>
      obtain ⟨xs, rfl, hd, hl⟩ := h1
      have hlen : d1.length = caps.length := by have := congrArg List.length hd; simpa using this
      refine step (.fnv f (toDats caps d1)) ?_ fun e tm => ⟨xs, rfl, hl⟩
      simp only [entryVs]
      rw [toDats_append caps d1 d2 hlen, ← hlen, List.drop_left]

theorem flatten_getD {L : List (List Nat)} {s b : Nat} (h : b ∈ L.getD s []) : b ∈ L.flatten := by
  rw [List.getD_eq_getElem?_getD] at h
  cases hs : L[s]? with
  | none => rw [hs] at h; simp at h
  | some l =>
    rw [hs] at h
    exact List.mem_flatten.2 ⟨l, List.mem_of_getElem? hs, by simpa using h⟩

theorem flatten_nodup : ∀ {L : List (List Nat)}, L.flatten.Nodup → (∀ s, (L.getD s []).Nodup) ∧ ∀ s s' b, s ≠ s' → b ∈ L.getD s [] → b ∉ L.getD s' []
  | [], _ => ⟨fun s => by simp, fun s s' b _ h => by simp at h⟩
  | l :: L, h => by
    simp only [List.flatten_cons, List.nodup_append] at h
    obtain ⟨h1, h2, h3⟩ := h
    obtain ⟨i1, i2⟩ := flatten_nodup h2
    refine ⟨fun s => ?_, fun s s' b hne hb hb' => ?_⟩
    · cases s with
      | zero => simpa using h1
      | succ s => simpa using i1 s
    · cases s with
      | zero =>
        cases s' with
        | zero => exact hne rfl
        | succ s' => exact h3 b (by simpa using hb) b (flatten_getD (s := s') (by simpa using hb')) rfl
      | succ s =>
        cases s' with
        | zero => exact h3 b (by simpa using hb') b (flatten_getD (s := s) (by simpa using hb)) rfl
        | succ s' => exact i2 s s' b (by omega) (by simpa using hb) (by simpa using hb')

/-- THE CONTRACT, from the formula of the function's body. -/
theorem CallsT.of_run {g : FuncId} {fn : Func} {c : Code} {sg : Sig} {x : sg.argT.den} {Post : sg.resT.den → sg.outT.den → Prop} (hf : P.funcs[g]? = some fn) (hb : fn.body = some c)
    (h : Run P fn sg Post (bodyOf fn) (entry sg fn x)) : CallsT P g sg x Post := by
  intro w vs O R hA hnd hur cs
  obtain ⟨Os, Rs, i1, i2, i3, i4, i5, i6, i7⟩ := entry_slots sg.pars hA
  have hbody : bodyOf fn = [.code c] := by simp [bodyOf, hb]
  rw [hbody] at h
  let bfr : Frame := { (default : Frame) with fn := g, kind := .normal }
  have henter : Frame.enter P g vs.toArray .normal = bfr.at { tmps := vs.toArray ++ Array.replicate (fn.ntmps - vs.toArray.size) undef, defers := [] } [.code c] := by
    simp [Frame.enter, Frame.at, hf, hb, bfr]
  have hgetE : ∀ s, get (entry sg fn x) s = ⟨0, 0, 0, 0, ((entryVs sg.pars (unt (sg.pars.flatMap Par.inT) x))[s]?).getD .dead⟩ := by
    intro s
    unfold get entry
    simp only [List.getD_eq_getElem?_getD]
    rcases Nat.lt_or_ge s (entryVs sg.pars (unt (sg.pars.flatMap Par.inT) x)).length with hlt | hge
    · rw [List.getElem?_append_left (by simpa using hlt), List.getElem?_map]
      simp [hlt]
    · rw [List.getElem?_append_right (by simpa using hge), List.getElem?_replicate, List.getElem?_eq_none hge]
      split <;> rfl
  have htv : ∀ s, s < vs.length → tv (vs.toArray ++ Array.replicate (fn.ntmps - vs.toArray.size) undef) s = vs.getD s undef := by
    intro s hs
    unfold tv
    simp only [Array.getD_eq_getD_getElem?, List.getD_eq_getElem?_getD]
    rw [Array.getElem?_append_left (by simpa using hs)]
    simp
  have hrel : Rel w (entry sg fn x) (vs.toArray ++ Array.replicate (fn.ntmps - vs.toArray.size) undef) (fun s => Os.getD s []) (fun s => Rs.getD s []) := by
    have hfl := flatten_nodup (L := Os) (by rw [← i1]; exact hnd)
    refine ⟨?_, fun s => ?_, hfl.1, hfl.2, fun s s' b hb hb' => ?_⟩
    · unfold entry
      simp [i5, i6]
    · rw [hgetE]
      simp only
      cases hs : (entryVs sg.pars (unt (sg.pars.flatMap Par.inT) x))[s]? with
      | none =>
        have hge : sg.pars.length ≤ s := by rw [← i5]; simpa using hs
        simp only [Option.getD_none]
        refine ⟨?_, ?_⟩
        · simp [List.getD_eq_getElem?_getD, List.getElem?_eq_none (show Os.length ≤ s by omega)]
        · simp [List.getD_eq_getElem?_getD, List.getElem?_eq_none (show Rs.length ≤ s by omega)]
      | some v =>
        have hlt : s < vs.length := by
          have := (List.getElem?_eq_some_iff.1 hs).1
          omega
        simp only [Option.getD_some]
        rw [htv s hlt]
        exact i7 s v hs _ _
    · exact hur b (by rw [i1]; exact flatten_getD hb) (by rw [i2]; exact flatten_getD hb')
  obtain ⟨tmps', w', td, ⟨v, hv, r, oo, O1, R1, O2, R2, hP, g1, g2, g3, g4, g5, g6, g7, g8⟩, hst⟩ := h w O R vs w _ _ _ i6 hrel
    ⟨Wld.refl w, fun _ _ _ => rfl, fun s b hb => .inl (by rw [i1]; exact flatten_getD hb), fun s b hb => .inr (.inl (by rw [i2]; exact flatten_getD hb)), fun s hs => by
      have hs2 : s < sg.pars.length := by
        have : ∀ (ps : List Par) (j s : Nat), s ∈ keepOf j ps → s < j + ps.length := by
          intro ps
          induction ps with
          | nil => intro j s h; simp [keepOf] at h
          | cons p ps ih =>
            intro j s h
            have : s = j ∨ s ∈ keepOf (j + 1) ps := by cases p <;> simp [keepOf] at h ⊢ <;> first | exact h | exact .inr h
            rcases this with rfl | h
            · simp
            · have := ih (j + 1) s h; simp; omega
        simpa using this sg.pars 0 s hs
      exact htv s (by omega)⟩ bfr cs
  rw [← henter] at hst
  exact ⟨.returned v, w', _, ⟨v, r, oo, O1, R1, O2, R2, rfl, hP, g1, g2, g3, g4, g5, g6, g7, g8⟩, hst, rfl, rfl, rfl, rfl, fn, hf, hv⟩

theorem CallsT.of_go {g : FuncId} {fn : Func} {sg : Sig} {x : sg.argT.den} {Post : sg.resT.den → sg.outT.den → Prop} (hf : P.funcs[g]? = some fn) (hb : fn.body.isSome = true)
    (h : Run P fn sg Post (bodyOf fn) (entry sg fn x)) : CallsT P g sg x Post := by
  obtain ⟨c, hc⟩ := Option.isSome_iff_exists.1 hb
  exact CallsT.of_run hf hc h

/-- a function's contract out of its formula -/
theorem CallsT.fml {T : Tab} {S : SigTab} (al : List Nat) (cuts : Cuts) {g : FuncId} (fn : Func) (sg : Sig) (x : sg.argT.den) (Post : sg.resT.den → sg.outT.den → Prop)
    (hT : TabOk P T) (hS : SigOk P S) (hm : P.follows .mixedOrders = true) (hf : P.funcs[g]? = some fn) (hb : fn.body.isSome = true) {A : Prop} (h : A)
    (e : A = evT (cxOf T S al sg) (CallsT P) sg fn Post cuts (Run P fn sg Post) 10000 false (bodyOf fn) (entry sg fn x)) : CallsT P g sg x Post :=
  CallsT.of_go hf hb (evT_sound hT hS hm 10000 false _ _ (e ▸ h))

/-- what is still to do at a cut out of its formula -/
theorem Run.fml {T : Tab} {S : SigTab} (al : List Nat) (cuts : Cuts) (fn : Func) (sg : Sig) (Post : sg.resT.den → sg.outT.den → Prop) (todo : List Item) (env : Env)
    (hT : TabOk P T) (hS : SigOk P S) (hm : P.follows .mixedOrders = true) {A : Prop} (h : A)
    (e : A = evT (cxOf T S al sg) (CallsT P) sg fn Post cuts (Run P fn sg Post) 10000 true todo env) : Run P fn sg Post todo env :=
  evT_sound hT hS hm 10000 true _ _ (e ▸ h)

end
end Go.Vm

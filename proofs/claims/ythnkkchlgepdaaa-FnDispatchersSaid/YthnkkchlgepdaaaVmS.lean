/- Operations of the evaluator Vm are the machine's: literals. Own work; lemmas. No condition. -/
import Derived.Test.YthnkkchlgepdaaaVmR
namespace Go.Vm
open Go.RowKit
set_option linter.unusedVariables false

section
variable {P : Program} {w : World} {env : Env} {tmps : Array Value} {Of Rf : Nat → List Nat} {o : Oper} {d : Nat}

theorem Packed.val_size {t : Ty} {a : An} {y : t.den} {cs : List Value} {x : Value} {O R : List Nat} (hk : Packed t cs x) (h : Rep w t a y cs O R) : x.cells.toList = cs ∧ x.cells.size = t.sz := by
  have e := hk.cells h.len.2
  exact ⟨e, by rw [← Array.length_toList, e, h.len.1]⟩

theorem takeAll_ok {e0 : Env} {Of0 Rf0 : Nat → List Nat} (h : Rel w e0 tmps Of0 Rf0) {e : Ty} : ∀ (X : List Operand) {an : An} {env : Env} {Of Rf : Nat → List Nat} {ws0 Oa Ra : List Nat}
    (k : Tk w tmps e0 Of0 Rf0 env Of Rf ws0 Oa Ra) {r : An × List e.den × Env × List Nat} (hq : takeAll e0 e an env (X.map (opnd e0)) = some r),
    ∃ O1 R1 Of1 Rf1, (∀ x ∈ X, (Go.Act.eval ⟨tmps, []⟩ x).cells.size = e.sz) ∧ RepL (Rep w e r.1) r.2.1 (X.flatMap fun x => (Go.Act.eval ⟨tmps, []⟩ x).cells.toList) O1 R1 ∧ r.2.1.length = X.length ∧
      Tk w tmps e0 Of0 Rf0 r.2.2.1 Of1 Rf1 (ws0 ++ r.2.2.2) (Oa ++ O1) (Ra ++ R1) := by
  intro X
  induction X with
  | nil =>
    intro an env Of Rf ws0 Oa Ra k r hq
    simp [takeAll] at hq
    subst hq
    exact ⟨[], [], Of, Rf, by simp, ⟨by simp, rfl, rfl⟩, rfl, by simpa using k⟩
  | cons x X ih =>
    intro an env Of Rf ws0 Oa Ra k r hq
    simp only [List.map_cons, takeAll] at hq
    cases hp : takeV e0 env e an (opnd e0 x) with
    | none => simp [hp] at hq
    | some p =>
      simp only [hp, Option.bind_some] at hq
      cases hr : takeAll e0 e p.a p.env (X.map (opnd e0)) with
      | none => simp [hr] at hq
      | some q =>
        simp only [hr, Option.bind_some] at hq
        by_cases ha : p.a = q.1
        · simp only [ha, decide_true, cond_true, Option.some.injEq] at hq
          subst hq
          obtain ⟨R', hs, hR⟩ := opnd_ok h x
          obtain ⟨cs, O1, R1, Of1, Rf1, hk, hrep, hk1⟩ := takeV_gen h k hs hR hp
          obtain ⟨O2, R2, Of2, Rf2, h1, h2, h3, h4⟩ := ih hk1 hr
          obtain ⟨he, hes⟩ := hk.val_size hrep
          refine ⟨O1 ++ O2, R1 ++ R2, Of2, Rf2, ?_, ⟨cs, _, O1, O2, R1, R2, by simp [he], rfl, rfl, by rw [← ha]; exact hrep, h2⟩, by simp [h3], by simpa [List.append_assoc] using h4⟩
          intro y hy
          simp at hy
          rcases hy with rfl | hy
          · exact hes
          · exact h1 y hy
        · simp [ha] at hq

theorem buildSlice_ok {T : Tab} (hT : TabOk P T) (h : Rel w env tmps Of Rf) (hod : o.dst = some d) (hd : d < env.length) {t : TypeId} {n : Nat} {parts : Array (Nat × Operand)} (ho : o.op = .buildSlice t n parts) {ti : TI} (hti : T.at t = some ti)
    {e : Ty} {el : TypeId} {ae : An} (hty : ti.ty = .sl e) (han : ti.an = .own el ae) (hn : parts.size = n) (hix : parts.toList.map (·.1) = List.range n) (hsm : n * e.sz ≤ 16777216)
    {r : An × List e.den × Env × List Nat} (hq : takeAll env e ae env (parts.toList.map fun p => opnd env p.2) = some r) :
    OpOk P w env tmps Of Rf o (put r.2.2.1 d none none r.2.2.2 (.dat (.sl e) (.own el r.1) r.2.1)) := by
  obtain ⟨el', ae', hu, hane, i, z, hi, hsz, hb, hz, hpk⟩ := sl_und hT hti hty
  rw [han] at hane
  simp only [An.own.injEq] at hane
  obtain ⟨rfl, rfl⟩ := hane
  have hq' : takeAll env e ae env ((parts.toList.map (·.2)).map (opnd env)) = some r := by rw [List.map_map]; exact hq
  obtain ⟨O1, R1, Of1, Rf1, h1, h2, h3, h4⟩ := takeAll_ok h _ (Tk.none h (R1 := []) (by simp)) hq'
  simp only [List.nil_append] at h4
  have hpl : parts.toList.length = n := by simpa using hn
  have hmm : n ≤ 16777216 := by have := Nat.mul_le_mul_left n e.sz_pos; omega
  have hvs : (parts.map fun (x : Nat × Operand) => (x.1, Go.Act.eval ⟨tmps, []⟩ x.2)).toList = (((parts.toList.map (·.2)).map (Go.Act.eval ⟨tmps, []⟩)).zipIdx 0).map fun x => (x.2, x.1) := by
    rw [Array.toList_map]
    apply List.ext_getElem?
    intro j
    simp only [List.getElem?_map, List.getElem?_zipIdx, Nat.zero_add]
    have hj := congrArg (fun l => l[j]?) hix
    simp only [List.getElem?_map] at hj
    cases hg : parts.toList[j]? with
    | none => simp
    | some p =>
      have hlt : j < n := by have := (List.getElem?_eq_some_iff.1 hg).1; omega
      rw [hg] at hj
      simp [hlt] at hj
      simp [hj]
  refine newrow_ok h hod hd h4 (cells := ((parts.toList.map (·.2)).flatMap fun x => (Go.Act.eval ⟨tmps, []⟩ x).cells.toList).toArray) (el := el) fun _ => ?_
  have hlen : r.2.1.length = n := by rw [h3]; simpa using hn
  have hcs := (h2.len (n := e.sz) fun x c O R hx => hx.len).1
  refine ⟨by simp, by simpa using h2, by rw [hlen]; unfold maxEl; omega, by simpa using hcs, ?_⟩
  have hcells : ((parts.toList.map (·.2)).flatMap fun x => (Go.Act.eval ⟨tmps, []⟩ x).cells.toList) = (((parts.toList.map (·.2)).map (Go.Act.eval ⟨tmps, []⟩)).flatMap fun v => v.cells.toList) := by
    simp only [List.flatMap_map]
  rw [hlen]
  by_cases h0 : n = 0
  · have hp0 : parts = #[] := by
      apply Array.eq_empty_of_size_eq_zero; omega
    subst hp0
    subst h0
    simp [execOp, ho, Instr.buildSlice, run_underlying hu, sizeOf, typeInfo, hi, Instr.fill, newRow, Array.range_zero']
  · have hpos : ¬ n * i.size = 0 := by rw [hsz]; have := e.sz_pos; exact Nat.mul_ne_zero h0 (by omega)
    have hzc : z.cells.size = e.sz := by rw [← Array.length_toList, hpk.cells (zero_one e), zeroCs_len]
    have hf := Great.fill_whole (s := i.size) (by rw [hsz]; exact e.sz_pos) ((parts.toList.map (·.2)).map (Go.Act.eval ⟨tmps, []⟩)) (madeCells z.cells (n * i.size))
      (fun v hv => by rw [List.mem_map] at hv; obtain ⟨x, hx, rfl⟩ := hv; rw [hsz]; exact h1 x hx) (by rw [size_madeCells]; simp [hpl])
    have hrun := run_buildSlice (P := P) w t el n (parts.map fun (x : Nat × Operand) => (x.1, Go.Act.eval ⟨tmps, []⟩ x.2)) _ i z hu hi hz (by rw [hsz]; omega) hpos (by rw [hvs]; exact hf)
    rw [← hcells] at hrun
    simp only [execOp, ho, Sem.run_bind, hrun]
    rfl

/-- part after part laid -/
theorem fill_step {place : Nat → Option (Nat × Nat)} {cells : Array Value} {i : Nat} {v : Value} {rest : List (Nat × Value)} {off n : Nat} (hp : place i = some (off, n)) (hv : v.cells.size = n) (hn : off + n ≤ cells.size) :
    Instr.fill place cells ((i, v) :: rest) = Instr.fill place (cells.toList.take off ++ v.cells.toList ++ cells.toList.drop (off + n)).toArray rest := by
  conv => lhs; unfold Instr.fill
  simp only [hp, hv]
  rw [if_neg (by simp; omega)]
  congr 1
  rw [← Array.foldl_toList, Array.toList_zipIdx]
  obtain ⟨g1, g2⟩ := Great.foldl_set off v.cells.toList 0 cells
  apply Array.ext'
  apply List.ext_getElem?
  intro j
  have hl : v.cells.toList.length = n := by simpa using hv
  have hj := g2 j
  simp only [Nat.add_zero, hl] at hj
  rw [Array.getElem?_toList]
  refine Eq.trans hj ?_
  simp only [List.append_assoc]
  by_cases h1 : j < off
  · rw [if_neg (by omega), List.getElem?_append_left (by simp; omega), List.getElem?_take, if_pos h1]; simp
  · by_cases h2 : j < off + n
    · rw [if_pos (by omega), List.getElem?_append_right (by simp; omega), List.getElem?_append_left (by simp [hv]; omega)]
      congr 1
      simp; omega
    · rw [if_neg (by omega), List.getElem?_append_right (by simp; omega), List.getElem?_append_right (by simp [hv]; omega), List.getElem?_drop]
      rw [← Array.getElem?_toList]
      congr 1
      simp [hv]; omega

theorem takeFields_ok {e0 : Env} {Of0 Rf0 : Nat → List Nat} (h : Rel w e0 tmps Of0 Rf0) {offs : List Nat} {place : Nat → Option (Nat × Nat)} {sz : Nat} (hpl : ∀ i o, offs[i]? = some o → place i = some (o, (offs[i + 1]?).getD sz - o)) :
    ∀ (X : List (Nat × Operand)) {env : Env} {Of Rf : Nat → List Nat} {ws0 Oa Ra : List Nat} {dd : Dat} {cells : Array Value} {Od Rd : List Nat}
    (k : Tk w tmps e0 Of0 Rf0 env Of Rf ws0 Oa Ra) (hsz : dd.t.sz = sz) (hd : Rep w dd.t dd.a dd.x cells.toList Od Rd) (hod : Od.Nodup ∧ (∀ b ∈ Od, b ∈ Oa) ∧ ∀ b ∈ Rd, b ∈ Ra)
    {r : Dat × Env × List Nat} (hq : takeFields e0 offs env (X.map fun p => (p.1, opnd e0 p.2)) dd = some r),
    ∃ O1 R1 Of1 Rf1 Od' Rd' cells', r.1.t = dd.t ∧ Instr.fill place cells (X.map fun p => (p.1, Go.Act.eval ⟨tmps, []⟩ p.2)) = some cells' ∧ Rep w r.1.t r.1.a r.1.x cells'.toList Od' Rd' ∧
      (Od'.Nodup ∧ (∀ b ∈ Od', b ∈ Oa ++ O1) ∧ ∀ b ∈ Rd', b ∈ Ra ++ R1) ∧ Tk w tmps e0 Of0 Rf0 r.2.1 Of1 Rf1 (ws0 ++ r.2.2) (Oa ++ O1) (Ra ++ R1) := by
  intro X
  induction X with
  | nil =>
    intro env Of Rf ws0 Oa Ra dd cells Od Rd k hsz hd hod r hq
    simp [takeFields] at hq
    subst hq
    exact ⟨[], [], Of, Rf, Od, Rd, cells, rfl, rfl, hd, by simpa using hod, by simpa using k⟩
  | cons x X ih =>
    obtain ⟨i, x⟩ := x
    intro env Of Rf ws0 Oa Ra dd cells Od Rd k hsz hd hod r hq
    simp only [List.map_cons, takeFields] at hq
    cases hoff : offs[i]? with
    | none => simp [hoff] at hq
    | some off =>
      simp only [hoff, Option.bind_some] at hq
      cases hsub : sub dd.t dd.a dd.x off ((offs[i + 1]?).getD dd.t.sz - off) with
      | none => simp [hsub] at hq
      | some c =>
        simp only [hsub, Option.bind_some] at hq
        cases htk : takeV e0 env c.t c.a (opnd e0 x) with
        | none => simp [htk] at hq
        | some q =>
          simp only [htk, Option.bind_some] at hq
          obtain ⟨R', hs, hR⟩ := opnd_ok h x
          obtain ⟨cs, O1, R1, Of1, Rf1, hk, hrep, hk1⟩ := takeV_gen h k hs hR htk
          obtain ⟨he, hes⟩ := hk.val_size hrep
          obtain ⟨c0, c1, c2, P0, P1, P2, Q0, Q1, Q2, hcs, hl0, hn, hO, hRd, hc, hupd⟩ := hd.focus hsub
          obtain ⟨p, hp, hrp⟩ := hupd w q.a q.x cs O1 R1 (fun _ _ => rfl) hrep
          rw [hn] at hp
          simp only [hp, Option.bind_some] at hq
          rw [Option.map_eq_some_iff] at hq
          obtain ⟨z, hz, rfl⟩ := hq
          have hcl := hc.len.1
          have hnd : (P0 ++ O1 ++ P2).Nodup := by
            have h1 := hod.1
            rw [hO] at h1
            have h2 := hk1.nd
            rw [List.nodup_append] at h1 h2 ⊢
            rw [List.nodup_append] at h1 ⊢
            have hin : ∀ b, b ∈ P0 ∨ b ∈ P2 → b ∈ Oa := fun b hb => hod.2.1 b (by rw [hO]; simp; grind)
            refine ⟨⟨h1.1.1, h2.2.1, fun a ha b hb => h2.2.2 a (hin a (.inl ha)) b hb⟩, h1.2.1, fun a ha b hb => ?_⟩
            rcases List.mem_append.1 ha with ha | ha
            · exact h1.2.2 a (by simp [ha]) b hb
            · exact fun e => h2.2.2 b (hin b (.inr hb)) a ha e.symm
          have hcells' : (c0 ++ cs ++ c2) = (cells.toList.take off ++ (Go.Act.eval ⟨tmps, []⟩ x).cells.toList ++ cells.toList.drop (off + c.t.sz)) := by
            rw [he, hcs, ← hl0, List.append_assoc c0 c1 c2, List.take_left, ← hcl, ← List.drop_drop, List.drop_left, List.drop_left]
          have hlen : off + c.t.sz ≤ cells.size := by
            have := congrArg List.length hcs
            simp at this
            omega
          have hsO : ∀ b ∈ P0 ++ O1 ++ P2, b ∈ Oa ++ O1 := by
            intro b hb
            simp only [List.mem_append] at hb ⊢
            have := hod.2.1 b
            rw [hO] at this
            simp only [List.mem_append] at this
            grind
          have hsR : ∀ b ∈ Q0 ++ R1 ++ Q2, b ∈ Ra ++ R1 := by
            intro b hb
            simp only [List.mem_append] at hb ⊢
            have := hod.2.2 b
            rw [hRd] at this
            simp only [List.mem_append] at this
            grind
          obtain ⟨O2, R2, Of2, Rf2, Od', Rd', cells', h1, h2, h3, h4, h5⟩ := ih (dd := ⟨dd.t, p.1, p.2⟩) (cells := (c0 ++ cs ++ c2).toArray) hk1 hsz hrp
            ⟨hnd, hsO, hsR⟩ hz
          · refine ⟨O1 ++ O2, R1 ++ R2, Of2, Rf2, Od', Rd', cells', h1, ?_, h3, ⟨h4.1, by simpa [List.append_assoc] using h4.2.1, by simpa [List.append_assoc] using h4.2.2⟩, by simpa [List.append_assoc] using h5⟩
            rw [List.map_cons, fill_step (hpl i off hoff) (n := (offs[i + 1]?).getD sz - off) (by rw [← hsz, hn]; exact hes) (by rw [← hsz, hn]; exact hlen)]
            rw [← hsz, hn, ← hcells']
            exact h2

theorem mapM_some {α β : Type} (g : α → Option β) : ∀ (l : List α), (∀ x ∈ l, ∃ y, g x = some y) → ∃ ys, l.mapM g = some ys ∧ ∀ (j : Nat) (x : α), l[j]? = some x → ys[j]? = g x
  | [], _ => ⟨[], rfl, by intro j x hx; simp at hx⟩
  | x :: l, h => by
    obtain ⟨y, hy⟩ := h x (by simp)
    obtain ⟨ys, hys, hj⟩ := mapM_some g l fun z hz => h z (by simp [hz])
    refine ⟨y :: ys, by simp [List.mapM_cons, hy, hys], fun j z hz => ?_⟩
    cases j with
    | zero => simp at hz; subst hz; simp [hy]
    | succ j => simpa using hj j z (by simpa using hz)

theorem build_ok {T : Tab} (hT : TabOk P T) (h : Rel w env tmps Of Rf) (hod : o.dst = some d) (hd : d < env.length) {t : TypeId} {parts : Array (Nat × Operand)} (ho : o.op = .build t parts) {ti : TI} (hti : T.at t = some ti) (hp : ti.ty.isPair = true)
    {r : Dat × Env × List Nat} (hq : takeFields env ti.offs env (parts.toList.map fun p => (p.1, opnd env p.2)) ⟨ti.ty, ti.an, ti.ty.dflt⟩ = some r) :
    OpOk P w env tmps Of Rf o (put r.2.1 d none none r.2.2 (.dat r.1.t r.1.a r.1.x)) := by
  obtain ⟨i, z, hi, hsz, hb, hz, hpk⟩ := (hT t ti hti).1.info
  have hzc : z.cells.toList = zeroCs ti.ty := hpk.cells (zero_one _)
  -- the places
  have hplace : ∃ place : Nat → Option (Nat × Nat), (∀ i o, ti.offs[i]? = some o → place i = some (o, (ti.offs[i + 1]?).getD ti.ty.sz - o)) ∧
      ∀ (l : List (Nat × Value)) (cells : Array Value), Instr.fill place z.cells l = some cells → P.built t l = some cells := by
    cases harr : ti.arr with
    | true =>
      obtain ⟨n, el, ie, hu, hie, hfs, -⟩ := (hT t ti hti).1.arr harr
      refine ⟨fun i => some (i * ie.size, ie.size), fun i o hio => ?_, fun l cells hl => ?_⟩
      · obtain ⟨-, h2, h3⟩ := hfs i o hio
        rw [← h3, h2]
      · unfold Program.built
        simp only [hi, hu, hz, hie, hl]
    | false =>
      obtain ⟨fs, hu, hlen, hfs⟩ := (hT t ti hti).1.str harr hp
      obtain ⟨places, hpl, hpj⟩ := mapM_some (fun f : Field => (P.info? f.type).map fun i => (f.offset, i.size)) fs.toList (by
        intro f hf
        obtain ⟨j, hj⟩ := List.getElem?_of_mem hf
        have hjl : j < ti.offs.length := by have := (List.getElem?_eq_some_iff.1 hj).1; simp at this; omega
        obtain ⟨fld, i', h1, -, h3, -⟩ := hfs j _ (List.getElem?_eq_getElem hjl)
        have h1' : fs.toList[j]? = some fld := by simpa using h1
        rw [hj] at h1'
        cases h1'
        exact ⟨_, by rw [h3]; rfl⟩)
      refine ⟨(places.toArray[·]?), fun j o hjo => ?_, fun l cells hl => ?_⟩
      · obtain ⟨fld, i', h1, h2, h3, h4, h5, -⟩ := hfs j o hjo
        have := hpj j fld (by simpa using h1)
        rw [h3, h2, Option.map_some, h5] at this
        simpa using this
      · unfold Program.built
        simp only [hi, hu, hz, hpl, hl]
  obtain ⟨place, hpl, hbuilt⟩ := hplace
  obtain ⟨O1, R1, Of1, Rf1, Od, Rd, cells, h1, h2, h3, h4, h5⟩ := takeFields_ok h hpl parts.toList (Tk.none h (R1 := []) (by simp)) (dd := ⟨ti.ty, ti.an, ti.ty.dflt⟩) rfl (cells := z.cells) (by rw [hzc]; exact zero_rep w ti.ty (hT t ti hti).1.anok)
    ⟨by simp, by simp, by simp⟩ hq
  simp only [List.nil_append] at h4 h5
  have hrun : (execOp (Go.Act.eval ⟨tmps, []⟩) o).run P w = .ok (.value (.agg cells)) w := by
    have hb' := hbuilt _ _ h2
    have := run_build (P := P) w t (parts.map fun (x : Nat × Operand) => (x.1, Go.Act.eval ⟨tmps, []⟩ x.2)) cells (by rw [Array.toList_map]; exact hb')
    simp only [execOp, ho, Sem.run_bind, this]
    rfl
  have hcl := Tk.clean h h5
  intro pre' hyp' env' ws' he hp'
  simp only [put, Act.ok.injEq] at he
  obtain ⟨rfl, rfl, rfl, rfl⟩ := he
  refine ⟨by simp, _, w, tmps.setIfInBounds d (.agg cells), fset Of1 d Od, fset Rf1 d Rd, hrun, by rw [hod]; exact ⟨_, rfl, rfl⟩, ?_⟩
  refine put_ok h h5 hd _ _ (O2 := Od) (R2 := Rd) (Wld.refl w) (fun _ _ _ => rfl) (fun _ _ _ _ => rfl) (fun env' tmps' hl => ⟨cells.toList, ?_, h3⟩) h4.1 (fun b hb => .inl (h4.2.1 b hb)) (fun b hb hb2 => hcl.2.1 b (h4.2.1 b hb) (h4.2.2 b hb2)) (fun b hb => .inl (h4.2.2 b hb))
  have h1' : r.1.t = ti.ty := h1
  rw [h1']
  cases hty : ti.ty with
  | pair t1 t2 => simp [Packed]
  | _ => rw [hty] at hp; simp [Ty.isPair] at hp

end
end Go.Vm

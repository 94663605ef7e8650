/- Operations of the evaluator Vm are the machine's: new variables, loads, addresses. Own work; lemmas. No condition. -/
import Derived.Test.YthnkkchlgepdaaaVmN
namespace Go.Vm
open Go.RowKit
set_option linter.unusedVariables false

section
variable {P : Program} {w : World} {env : Env} {tmps : Array Value} {Of Rf : Nat → List Nat} {o : Oper} {d : Nat}

theorem Packed.cells {t : Ty} {cs : List Value} {x : Value} (h : Packed t cs x) (h1 : ∀ v ∈ cs, v.oneCell' = true) : x.cells.toList = cs := by
  cases t with
  | pair t u => rw [show x = .agg cs.toArray from h]; rfl
  | int k | bool | str | sl e =>
    have hc : cs = [x] := h
    have := h1 x (by simp [hc])
    rw [hc]
    cases x <;> first | rfl | simp [Value.oneCell'] at this

theorem alloc_wld (w : World) (ob : Obj) : Wld w (w.alloc ob) := ⟨rfl, rfl, rfl, by show w.heap.size ≤ (w.heap.push ob).size; simp⟩
theorem alloc_old {w : World} (ob : Obj) {b : Nat} (h : b < w.heap.size) : (w.alloc ob).heap[b]? = w.heap[b]? := Below.heap_alloc w ob b h
theorem alloc_new (w : World) (ob : Obj) : (w.alloc ob).heap[w.heap.size]? = some ob := by show (w.heap.push ob)[w.heap.size]? = _; simp

/-- a new variable, of data that was moved out of places -/
theorem newbox_ok (h : Rel w env tmps Of Rf) (hod : o.dst = some d) (hd : d < env.length) {t : Ty} {a : An} {y : t.den} {env1 : Env} {Of1 Rf1 : Nat → List Nat} {ws O1 R1 : List Nat}
    (k : Tk w tmps env Of Rf env1 Of1 Rf1 ws O1 R1) {cs : Array Value} {el : TypeId} (hr : Rep w t a y cs.toList O1 R1)
    (hrun : (execOp (Go.Act.eval ⟨tmps, []⟩) o).run P w = .ok (.value (.pointer (some ⟨w.heap.size, 0, none⟩))) (w.alloc (.cells cs el (0, 0)))) :
    OpOk P w env tmps Of Rf o (put env1 d none none ws (.box t a y)) := by
  intro pre' hyp' env' ws' he hp'
  simp only [put, Act.ok.injEq] at he
  obtain ⟨rfl, rfl, rfl, rfl⟩ := he
  have hcl := Tk.clean h k
  have hlt : ∀ b, b ∈ O1 ∨ b ∈ R1 → b < w.heap.size := hr.lt
  refine ⟨by simp, _, w.alloc (.cells cs el (0, 0)), _, fset Of1 d (w.heap.size :: O1), fset Rf1 d R1, hrun, by rw [hod]; exact ⟨_, rfl, rfl⟩, ?_⟩
  refine put_ok h k hd (.box t a y) _ (alloc_wld w _) (fun b hb _ => alloc_old _ hb) (fun s _ b hb => alloc_old _ (k.rel.lt hb)) (fun env' tmps' hl => ?_) ?_ ?_ ?_ (fun b hb => .inl hb)
  · exact ⟨w.heap.size, cs, el, O1, rfl, alloc_new _ _, hr.frame (fun b hb => alloc_old _ (hlt b (.inl hb))) (fun b hb => alloc_old _ (hlt b (.inr hb))), rfl⟩
  · rw [List.nodup_cons]; exact ⟨fun hb => absurd (hlt _ (.inl hb)) (Nat.lt_irrefl _), k.nd⟩
  · intro b hb; simp at hb; rcases hb with rfl | hb
    · exact .inr (Nat.le_refl _)
    · exact .inl hb
  · intro b hb; simp at hb; rcases hb with rfl | hb
    · exact fun hr => absurd (hlt _ (.inr hr)) (Nat.lt_irrefl _)
    · exact hcl.2.1 b hb

theorem zero_one (t : Ty) : ∀ v ∈ zeroCs t, v.oneCell' = true := by
  induction t with
  | pair t u iht ihu => intro v hv; simp only [zeroCs, List.mem_append] at hv; exact hv.elim (iht v) (ihu v)
  | _ => intro v hv; simp [zeroCs] at hv; subst hv; rfl

theorem alloc_ok {T : Tab} (hT : TabOk P T) (h : Rel w env tmps Of Rf) (hod : o.dst = some d) (hd : d < env.length) {t : TypeId} (ho : o.op = .alloc t) {ti : TI} (ht : T.at t = some ti) :
    OpOk P w env tmps Of Rf o (put env d none none [] (.box ti.ty ti.an ti.ty.dflt)) := by
  obtain ⟨i, z, hi, hsz, hb, hz, hk⟩ := (hT t ti ht).1.info
  have hc := Packed.cells hk (zero_one _)
  have hr := zero_rep w ti.ty (hT t ti ht).1.anok
  refine newbox_ok h hod hd (Tk.none h (R1 := []) (by simp)) (cs := z.cells) (el := t) (by rw [hc]; exact hr) ?_
  simp [execOp, ho, Instr.alloc, zeroValue, typeInfo, hi, hz, newVar, newRow]

theorem box_ok {T : Tab} (hT : TabOk P T) (h : Rel w env tmps Of Rf) (hod : o.dst = some d) (hd : d < env.length) {t : TypeId} {x : Operand} (ho : o.op = .box t x) {ti : TI} (ht : T.at t = some ti) {q : Took ti.ty}
    (hq : takeV env env ti.ty ti.an (opnd env x) = some q) : OpOk P w env tmps Of Rf o (put q.env d none none q.ws (.box ti.ty q.a q.x)) := by
  obtain ⟨R', hs, hR⟩ := opnd_ok h x
  obtain ⟨cs, O1, R1, Of1, Rf1, hk, hr, k⟩ := takeV_ok h hs hR hq
  have hc := Packed.cells hk hr.len.2
  refine newbox_ok h hod hd k (cs := (Go.Act.eval ⟨tmps, []⟩ x).cells) (el := t) (by rw [hc]; exact hr) ?_
  simp [execOp, ho, Instr.box, newVar, newRow]

theorem sub_ro {t : Ty} {a : An} {x : t.den} {o n : Nat} {dd : Dat} (h : sub t a x o n = some dd) (ha : a.plain = true := by rfl) : dd.a.plain = true := by
  induction t generalizing a o with
  | pair t u iht ihu =>
    simp only [sub] at h
    cases e1 : ((o == 0) && (n == t.sz + u.sz)) with
    | true => simp only [e1, cond_true, Option.some.injEq] at h; subst h; exact ha
    | false =>
      simp only [e1, cond_false] at h
      have hl : a.l.plain = true := by cases a <;> simp_all [An.l, An.plain]
      have hr : a.r.plain = true := by cases a <;> simp_all [An.r, An.plain]
      cases e2 : Nat.ble (o + n) t.sz with
      | true => simp only [e2, cond_true] at h; exact iht h hl
      | false =>
        simp only [e2, cond_false] at h
        cases e3 : Nat.ble t.sz o with
        | false => simp [e3] at h
        | true => simp only [e3, cond_true] at h; exact ihu h hr
  | int k | bool | str | sl e =>
    simp only [sub] at h
    cases e1 : ((o == 0) && (n == 1)) with
    | false => simp [e1] at h
    | true => simp only [e1, cond_true, Option.some.injEq] at h; subst h; exact ha

theorem nilCheck_ok (h : Rel w env tmps Of Rf) (hod : o.dst = some d) (hd : d < env.length) {x : Operand} (ho : o.op = .nilCheck x) {l : Lk} (hx : opnd env x = .ptr l) :
    OpOk P w env tmps Of Rf o (bif freshP env l then mv env d (.ptr l) else .bad) := by
  cases hf : freshP env l with
  | false => exact OpOk.bad
  | true =>
    obtain ⟨R', hs, -⟩ := opnd_ok h x
    rw [hx] at hs
    obtain ⟨cs, b, k, hloc, he⟩ := hs.2.2.2 hf
    have hs' : SlotOk w env tmps (.ptr l) (Go.Act.eval ⟨tmps, []⟩ x) [] [] := ⟨rfl, rfl, hs.2.2⟩
    exact OpOk.mv h hod hd (by simp [execOp, ho, he]) hs' (by simp)

theorem fieldAddr_ok {T : Tab} (hT : TabOk P T) (h : Rel w env tmps Of Rf) (hod : o.dst = some d) (hd : d < env.length) {s : TypeId} {x : Operand} {f : Nat} (ho : o.op = .fieldAddr s x f) :
    OpOk P w env tmps Of Rf o (match T.at s, opnd env x with
      | some ti, .ptr l => match ti.offs[f]? with
        | some o => bif (!ti.arr && ti.ty.isPair) && freshP env l then mv env d (.ptr ⟨l.s, l.t, l.st, l.off + o⟩) else .bad
        | none => .bad
      | some ti, .rop u y off => match ti.offs[f]? with
        | some o => bif !ti.arr && ti.ty.isPair then mv env d (.rop u y (off + o)) else .bad
        | none => .bad
      | _, _ => .bad) := by
  have run : ∀ ti o', T.at s = some ti → ti.arr = false → ti.offs[f]? = some o' → ∀ b k, Go.Act.eval ⟨tmps, []⟩ x = .pointer (some ⟨b, k, none⟩) → ti.ty.isPair = true →
      (execOp (Go.Act.eval ⟨tmps, []⟩) o).run P w = .ok (.value (.pointer (some ⟨b, k + o', none⟩))) w := by
    intro ti o' ht ha hof b k he hpair
    obtain ⟨fs, hu, -, hfs⟩ := (hT s ti ht).1.str ha hpair
    obtain ⟨fld, i, h1, h2, h3, h4, -⟩ := hfs f o' hof
    simp [execOp, ho, Instr.fieldAt, run_underlying hu, h1, he, Instr.sureAddr, fieldPlace, sizeOf, typeInfo, h3, h4, h2, Addr.add_lit]
  obtain ⟨R', hs, hR⟩ := opnd_ok h x
  split
  · rename_i ti l ht hx
    rw [hx] at hs
    split
    · rename_i o' hof
      cases hc : ((!ti.arr && ti.ty.isPair) && freshP env l) with
      | false => exact OpOk.bad
      | true =>
        simp at hc
        obtain ⟨cs, b, k, hloc, he⟩ := hs.2.2.2 hc.2
        have hs' : SlotOk w env tmps (.ptr ⟨l.s, l.t, l.st, l.off + o'⟩) (.pointer (some ⟨b, k + l.off + o', none⟩)) [] [] :=
          ⟨rfl, rfl, hs.2.2.1, fun _ => ⟨cs, b, k, hloc, by rw [Nat.add_assoc]⟩⟩
        exact OpOk.mv h hod hd (run ti o' ht hc.1.1 hof b _ he hc.1.2) hs' (by simp)
    · exact OpOk.bad
  · rename_i ti u y off ht hx
    rw [hx] at hs
    split
    · rename_i o' hof
      cases hc : (!ti.arr && ti.ty.isPair) with
      | false => exact OpOk.bad
      | true =>
        simp at hc
        obtain ⟨-, b, k, cells, R2, he, hr, hu, rfl⟩ := hs
        have hs' : SlotOk w env tmps (.rop u y (off + o')) (.pointer (some ⟨b, k + off + o', none⟩)) [] (b :: R2) :=
          ⟨rfl, b, k, cells, R2, by rw [Nat.add_assoc], hr, hu, rfl⟩
        exact OpOk.mv h hod hd (run ti o' ht hc.1 hof b _ he hc.2) hs' hR
    · exact OpOk.bad
  · exact OpOk.bad

theorem load_ok {T : Tab} (hT : TabOk P T) (h : Rel w env tmps Of Rf) (hod : o.dst = some d) (hd : d < env.length) {t : TypeId} {x : Operand} (ho : o.op = .load t x) :
    OpOk P w env tmps Of Rf o (match T.at t, opnd env x with
      | some ti, .ptr l => match rdP env l ti.ty.sz with
        | some dd => bif dd.t.isPair == ti.ty.isPair then mv env d (seen dd fun o => ⟨l.s, (get env l.s).now, l.st, l.off + o⟩) else .bad
        | none => .bad
      | some ti, .rop u y off => match sub u .ro y off ti.ty.sz with
        | some dd => bif dd.t.isPair == ti.ty.isPair then put env d none none [] (.dat dd.t .ro dd.x) else .bad
        | none => .bad
      | _, _ => .bad) := by
  obtain ⟨R', hs, hR⟩ := opnd_ok h x
  have repack : ∀ (dt : Ty) (ti : TI) (cs : List Value) (v : Value), dt.isPair = ti.ty.isPair → Packed ti.ty cs v → Packed dt cs v := by
    intro dt ti cs v hp hk
    cases dt <;> cases hty : ti.ty <;> simp [Ty.isPair, hty] at hp <;> (rw [hty] at hk; exact hk)
  split
  · rename_i ti l ht hx
    rw [hx] at hs
    split
    · rename_i dd hrd
      cases hpp : (dd.t.isPair == ti.ty.isPair) with
      | false => exact OpOk.bad
      | true =>
        simp only [cond_true]
        have hpp' : dd.t.isPair = ti.ty.isPair := by simpa using hpp
        obtain ⟨b, k, C, el, cs1, cs, O1, R1, he, hb, hbO, hloc, hj, hcs, hlen, hle, hn, hr, hO1, hR1⟩ := rdP_ok h hs.2.2 hrd
        obtain ⟨v, hrun, hk⟩ := run_loadVar (P := P) (w := w) (hT t ti ht).1 (b := b) (o := k + l.off) (cs := cs) hlen (fun j u hju => by
          rw [cell_at hb]
          rw [hcs, List.getElem?_take] at hju
          split at hju
          · rw [List.getElem?_drop] at hju; exact hju
          · cases hju)
        have hk' := repack dd.t ti cs v hpp' hk
        have hf : freshP env l = true := by
          unfold rdP at hrd
          cases hf : freshP env l with
          | true => rfl
          | false => rw [hf] at hrd; simp at hrd
        obtain ⟨R2, hs2, hR2⟩ := seen_ok (w := w) (env := env) (tmps := tmps) hr hk' (mk := fun o => ⟨l.s, (get env l.s).now, l.st, l.off + o⟩) (fun j u hju hsl => ⟨Nat.le_refl _, fun _ => ⟨cs1, some (b, k), u, hloc, (by
          rw [hj j (by rw [← hlen]; exact (List.getElem?_eq_some_iff.1 hju).1)]
          rw [hcs, List.getElem?_take] at hju
          split at hju
          · rw [List.getElem?_drop] at hju; exact hju
          · cases hju), hsl, rfl⟩⟩)
        exact OpOk.mv h hod hd (by simp [execOp, ho, he, Instr.loadAt, Instr.sureAddr, hrun]) hs2 (fun b hb' => ⟨l.s, hR1 b (hR2 b hb')⟩)
    · exact OpOk.bad
  · rename_i ti u y off ht hx
    rw [hx] at hs
    split
    · rename_i dd hsb
      cases hpp : (dd.t.isPair == ti.ty.isPair) with
      | false => exact OpOk.bad
      | true =>
        simp only [cond_true]
        have hpp' : dd.t.isPair = ti.ty.isPair := by simpa using hpp
        obtain ⟨-, b, k, cells, R2, he, hr, hu, rfl⟩ := hs
        obtain ⟨c0, c1, c2, O0, O1, O2, R0, R1, R3, hc, hl, hn, hO, rfl, hdd, -⟩ := hr.focus hsb
        have hO1 : O1 = [] := by have := congrArg List.length hO; simp at this; exact List.eq_nil_of_length_eq_zero (by omega)
        subst hO1
        have hro : dd.a.plain = true := sub_ro hsb
        obtain ⟨v, hrun, hk⟩ := run_loadVar (P := P) (w := w) (hT t ti ht).1 (b := b) (o := k + off) (cs := c1) (by rw [hdd.len.1, hn]) (fun j u hju => by
          have := hu (off + j) u (by
            rw [hc, ← hl, List.append_assoc, List.getElem?_append_right (by omega), Nat.add_sub_cancel_left, List.getElem?_append_left (List.getElem?_eq_some_iff.1 hju).1]
            exact hju)
          rwa [← Nat.add_assoc] at this)
        have hk' := repack dd.t ti c1 v hpp' hk
        exact OpOk.put0 h hod hd fun _ => ⟨by simp, v, R1, by simp [execOp, ho, he, Instr.loadAt, Instr.sureAddr, hrun], ⟨c1, hk', (Rep.ro_of hdd hro).2⟩, fun b' hb' => hR b' (by simp; grind)⟩
    · exact OpOk.bad
  · exact OpOk.bad

end
end Go.Vm

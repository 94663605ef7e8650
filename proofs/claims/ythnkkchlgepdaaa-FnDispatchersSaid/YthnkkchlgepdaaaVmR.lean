/- Operations of the evaluator Vm are the machine's: fields, literals, new rows. Own work; lemmas. No condition. -/
import Derived.Test.YthnkkchlgepdaaaVmQ
import Derived.Great.BuildSlice
namespace Go.Vm
open Go.RowKit
set_option linter.unusedVariables false

section
variable {P : Program} {w : World} {env : Env} {tmps : Array Value} {Of Rf : Nat → List Nat} {o : Oper} {d : Nat}

theorem pick_ok (h : Rel w env tmps Of Rf) (hod : o.dst = some d) (hd : d < env.length) {c a b : Operand} (ho : o.op = .pick c a b) :
    OpOk P w env tmps Of Rf o (match opnd env c with
      | .dat .bool _ cb => match opnd env a, opnd env b with
        | .dat .bool _ x, .dat .bool _ y => yes env d (cond cb x y)
        | va, vb => Vm.mv env d (cond cb va vb)
      | _ => .bad) := by
  split
  · rename_i _ cb hc
    have ec := opnd_bool h hc
    split
    · rename_i x _ y hx hy
      have ex := opnd_bool h hx
      have ey := opnd_bool h hy
      refine yes_ok h hod hd ?_
      cases cb <;> simp [execOp, ho, ec, ex, ey, asBool]
    · cases cb with
      | true => exact mv_opnd h hod hd (by simp [execOp, ho, ec, asBool])
      | false => exact mv_opnd h hod hd (by simp [execOp, ho, ec, asBool])
  · exact OpOk.bad

theorem isAgg_no {t : TypeId} {fd : TypeDesc} (hu : P.underlying t = some fd) (hf : aggD fd = false) (w : World) : (isAgg t).run P w = .ok false w := by
  cases fd <;> first | (simp [aggD] at hf; done) | simp [isAgg, run_underlying hu]

theorem fieldAct_ok {T : Tab} (hT : TabOk P T) (h : Rel w env tmps Of Rf) (hod : o.dst = some d) (hd : d < env.length) {t : TypeId} {x : Operand} {f : Nat} {arr : Bool}
    (ho : (arr = false ∧ o.op = .field t x f) ∨ (arr = true ∧ o.op = .index t x (.const (.int .i64 (Int.ofNat f))))) : OpOk P w env tmps Of Rf o (fieldAct T env d t arr (opnd env x) f) := by
  obtain ⟨R', hs, hR⟩ := opnd_ok h x
  have hrun : ∀ {ti : TI} {off : Nat} {cs : List Value} {v : Value}, T.at t = some ti → ti.arr = arr → ti.ty.isPair = true → ti.offs[f]? = some off → (ti.offs[f + 1]?).getD ti.ty.sz - off = 1 →
      Go.Act.eval ⟨tmps, []⟩ x = .agg cs.toArray → cs[off]? = some v → (execOp (Go.Act.eval ⟨tmps, []⟩) o).run P w = .ok (.value v) w := by
    intro ti off cs v hti harr hp hoff hsz hx hv
    have hv' : cs.toArray[off]? = some v := by simpa using hv
    cases arr with
    | false =>
      obtain ⟨fs, hu, -, hfs⟩ := (hT t ti hti).1.str harr hp
      obtain ⟨fld, i, h1, h2, h3, h4, h5, fd, h6, h7⟩ := hfs f off hoff
      have hna := isAgg_no h6 (h7 (by omega)) w
      have ho' : o.op = .field t x f := by simpa using ho
      simp [execOp, ho', Instr.field, run_underlying hu, h1, hx, asAgg, part, hna, h2, hv]
    | true =>
      obtain ⟨n, el, i, hu, hi, hfs, fd, h6, h7⟩ := (hT t ti hti).1.arr harr
      obtain ⟨h1, h2, h3⟩ := hfs f off hoff
      have hna := isAgg_no h6 (h7 (by omega)) w
      have ho' : o.op = .index t x (.const (.int .i64 (Int.ofNat f))) := by simpa using ho
      have hm : (f * i.size) = off := h2.symm
      have hsz : (sizeOf el).run P w = .ok i.size w := by simp [sizeOf, typeInfo, hi]
      have ec : Go.Act.eval ⟨tmps, []⟩ (.const (.int .i64 (Int.ofNat f))) = .int .i64 (Int.ofNat f) := rfl
      simp only [execOp, ho', hx, ec]
      simp [Instr.index, run_underlying hu, asIntOf, h1, hsz, part, hna, hm, hv]
  unfold fieldAct
  split
  · rename_i ti u a y hti hx
    rw [hx] at hs
    obtain rfl := opnd_ro hx
    cases hc : (!(ti.arr == arr) || !ti.ty.isPair) || !(decide (u = ti.ty)) with
    | true => exact OpOk.bad
    | false =>
      simp only [cond_false]
      simp at hc
      obtain ⟨⟨harr, hp⟩, rfl⟩ := hc
      split
      · rename_i off hoff
        split
        · rename_i dd hsub
          cases hc2 : dd.a.plain && (dd.t.sz == 1) with
          | false => exact OpOk.bad
          | true =>
            simp only [cond_true]
            simp at hc2
            obtain ⟨cs, hk, hr⟩ := hs
            obtain ⟨c0, c1, c2, O0, O1, O2, R0, R1, R2, rfl, hl, hn, hO, rfl, hdd, -⟩ := hr.focus hsub
            obtain ⟨rfl, hrr⟩ := hdd.ro_of hc2.1
            have hl1 := hdd.len.1
            rw [hc2.2] at hl1
            obtain ⟨v, rfl⟩ : ∃ v, c1 = [v] := List.length_eq_one_iff.1 hl1
            have hxv : Go.Act.eval ⟨tmps, []⟩ x = .agg (c0 ++ [v] ++ c2).toArray := by
              cases hty : ti.ty with
              | pair t1 t2 => rw [hty] at hk; exact hk
              | _ => rw [hty] at hp; simp [Ty.isPair] at hp
            have hv : (c0 ++ [v] ++ c2)[off]? = some v := by simp [← hl]
            refine OpOk.put0 h hod hd fun _ => ⟨by simp, v, R1, hrun hti harr hp hoff (by rw [hn, hc2.2]) hxv hv, ⟨[v], ?_, hrr⟩, fun b hb => hR b (by simp [hb])⟩
            cases hdt : dd.t with
            | pair t1 t2 => rw [hdt] at hc2; have := t1.sz_pos; have := t2.sz_pos; simp [Ty.sz] at hc2; omega
            | _ => rfl
        · exact OpOk.bad
      · exact OpOk.bad
  · rename_i ti cs hti hx
    rw [hx] at hs
    cases hc : (!(ti.arr == arr) || !ti.ty.isPair) with
    | true => exact OpOk.bad
    | false =>
      simp only [cond_false]
      simp at hc
      obtain ⟨harr, hp⟩ := hc
      split
      · rename_i off hoff
        cases hz : ((ti.offs[f + 1]?).getD ti.ty.sz - off != 1) with
        | true => exact OpOk.bad
        | false =>
          simp only [cond_false]
          have hz' : (ti.offs[f + 1]?).getD ti.ty.sz - off = 1 := by simpa using hz
          obtain ⟨vs, hxv, hl, hj⟩ := hs
          have hlen : ∀ (w : World) (x : Cel) (c : List Value) (O1 R1 : List Nat), RepCel w x c O1 R1 → c.length = 1 := fun w x c O1 R1 h => h.len.1
          split
          · rename_i t' y hcel
            obtain ⟨c0, c1, c2, O0, O1, O2, R0, R1, R2, rfl, hl0, hO, rfl, hdd, -⟩ := hl.focus (f := RepCel) (n := 1) (w := w) hlen (fun w w' x c O1 R1 h ho hr => h.frame hr) hcel
            obtain ⟨hsz, -, hrr⟩ := hdd
            have hl1 := hrr.len.1
            rw [hsz] at hl1
            obtain ⟨v, rfl⟩ : ∃ v, c1 = [v] := List.length_eq_one_iff.1 hl1
            have hv : (c0 ++ [v] ++ c2)[off]? = some v := by
              rw [List.append_assoc, List.getElem?_append_right (by omega), hl0]; simp
            refine OpOk.put0 h hod hd fun _ => ⟨by simp, v, R1, hrun hti harr hp hoff hz' hxv hv, ⟨[v], ?_, hrr⟩, fun b hb => hR b (by simp [hb])⟩
            cases t' with
            | pair t1 t2 => have := t1.sz_pos; have := t2.sz_pos; simp [Ty.sz] at hsz; omega
            | _ => rfl
          · rename_i l hcel
            obtain ⟨v, hv, hrv⟩ := hj off l hcel
            exact OpOk.put0 h hod hd fun _ => ⟨by simp, v, [], hrun hti harr hp hoff hz' hxv hv, ⟨rfl, rfl, hrv⟩, by simp⟩
          · exact OpOk.bad
      · exact OpOk.bad
  · exact OpOk.bad

/-- a new row, its elements moved out of places -/
theorem newrow_ok (h : Rel w env tmps Of Rf) (hod : o.dst = some d) (hd : d < env.length) {e : Ty} {el : TypeId} {ae : An} {xs : List e.den} {env1 : Env} {Of1 Rf1 : Nat → List Nat} {ws O1 R1 : List Nat} {pre hyp : Option Prop}
    (k : Tk w tmps env Of Rf env1 Of1 Rf1 ws O1 R1) {cells : Array Value} (H : (∀ p, pre = some p → p) → (∀ q, hyp = some q → q) ∧ RepL (Rep w e ae) xs cells.toList O1 R1 ∧ xs.length ≤ maxEl ∧ cells.size = xs.length * e.sz ∧
      (execOp (Go.Act.eval ⟨tmps, []⟩) o).run P w = .ok (.value (.slice (some ⟨w.heap.size, 0, none⟩) xs.length xs.length)) (w.alloc (.cells cells el (0, 0)))) :
    OpOk P w env tmps Of Rf o (put env1 d pre hyp ws (.dat (.sl e) (.own el ae) xs)) := by
  intro pre' hyp' env' ws' he hp'
  simp only [put, Act.ok.injEq] at he
  obtain ⟨rfl, rfl, rfl, rfl⟩ := he
  obtain ⟨h1, hr, hm, hsz, hrun⟩ := H hp'
  have hcl := Tk.clean h k
  have hlt : ∀ b, b ∈ O1 ∨ b ∈ R1 → b < w.heap.size := by
    intro b hb
    obtain ⟨y, _, c, O2, R2, hy, hb'⟩ := hr.mem hb
    exact hy.lt b hb'
  refine ⟨h1, _, w.alloc (.cells cells el (0, 0)), _, fset Of1 d (w.heap.size :: O1), fset Rf1 d R1, hrun, by rw [hod]; exact ⟨_, rfl, rfl⟩, ?_⟩
  refine put_ok h k hd (.dat (.sl e) (.own el ae) xs) _ (alloc_wld w _) (fun b hb _ => alloc_old _ hb) (fun s _ b hb => alloc_old _ (k.rel.lt hb)) (fun env' tmps' hl => ?_) ?_ ?_ ?_ (fun b hb => .inl hb)
  · refine ⟨_, rfl, _, cells.toList, O1, rfl, ?_, hm, rfl, ?_⟩
    · refine ⟨by simpa using hsz, .inr ⟨w.heap.size, xs.length, cells, rfl, Nat.zero_le _, alloc_new _ _, Nat.le_refl _, ?_, hsz, ?_⟩⟩
      · exact Nat.le_trans hm (by decide)
      · exact List.take_of_length_le (by rw [Array.length_toList]; exact Nat.le_of_eq hsz)
    · exact hr.imp fun y _ c O2 R2 ho2 hr2 hy => hy.frame (fun b hb => alloc_old _ (hlt b (.inl (ho2 b hb)))) (fun b hb => alloc_old _ (hlt b (.inr (hr2 b hb))))
  · rw [List.nodup_cons]; exact ⟨fun hb => absurd (hlt _ (.inl hb)) (Nat.lt_irrefl _), k.nd⟩
  · intro b hb; simp at hb; rcases hb with rfl | hb
    · exact .inr (Nat.le_refl _)
    · exact .inl hb
  · intro b hb; simp at hb; rcases hb with rfl | hb
    · exact fun hr => absurd (hlt _ (.inr hr)) (Nat.lt_irrefl _)
    · exact hcl.2.1 b hb

theorem repL_replicate {e : Ty} {ae : An} (ha : ae.ok = true) (n : Nat) : RepL (Rep w e ae) (List.replicate n e.dflt) (List.replicate n (zeroCs e)).flatten [] [] := by
  induction n with
  | zero => exact ⟨rfl, rfl, rfl⟩
  | succ n ih => exact ⟨zeroCs e, (List.replicate n (zeroCs e)).flatten, [], [], [], [], by simp [List.replicate_succ], rfl, rfl, zero_rep w e ha, ih⟩

theorem madeCells_eq {z : Array Value} {cs : List Value} (hz : z.toList = cs) (h0 : 0 < cs.length) (n : Nat) : (madeCells z (n * cs.length)).toList = (List.replicate n cs).flatten := by
  subst hz
  apply List.ext_getElem?
  intro j
  have hfl : ∀ (n j : Nat), (List.replicate n z.toList).flatten[j]? = if j < n * z.toList.length then z.toList[j % z.toList.length]? else none := by
    intro n
    induction n with
    | zero => intro j; simp
    | succ n ih =>
      intro j
      rw [List.replicate_succ, List.flatten_cons, List.getElem?_append]
      split
      · rename_i hj
        rw [Nat.mod_eq_of_lt hj, if_pos (by rw [Nat.succ_mul]; omega)]
      · rename_i hj
        rw [ih]
        have e1 : (j - z.toList.length) % z.toList.length = j % z.toList.length := by
          rw [← Nat.mod_eq_sub_mod (by omega)]
        rw [e1, Nat.succ_mul]
        by_cases hc : j < n * z.toList.length + z.toList.length
        · rw [if_pos (by omega), if_pos hc]
        · rw [if_neg (by omega), if_neg hc]
  rw [hfl]
  simp only [Array.length_toList] at h0
  simp only [madeCells, Array.length_toList]
  by_cases hj : j < n * z.size
  · rw [if_pos hj]
    have hm := Nat.mod_lt j h0
    simp [hj, hm]
  · rw [if_neg hj]
    simp [hj]

theorem zeroCs_len (t : Ty) : (zeroCs t).length = t.sz := by
  have := (zero_rep (w := default) t (a := .ro) rfl).len.1
  exact this

theorem makeSlice_ok {T : Tab} (hT : TabOk P T) (h : Rel w env tmps Of Rf) (hod : o.dst = some d) (hd : d < env.length) {t : TypeId} {n m : Operand} (ho : o.op = .makeSlice t n m) {ti : TI} (hti : T.at t = some ti)
    {e : Ty} {el : TypeId} {ae : An} (hty : ti.ty = .sl e) (han : ti.an = .own el ae) {k : Int} (hn : ∃ a, opnd env n = .dat (.int .i64) a k) (hm : Go.Act.eval ⟨tmps, []⟩ m = Go.Act.eval ⟨tmps, []⟩ n) :
    OpOk P w env tmps Of Rf o (put env d (some (0 ≤ k ∧ k ≤ 4294967296)) none [] (.dat (.sl e) (.own el ae) (List.replicate k.toNat e.dflt))) := by
  obtain ⟨el', ae', hu, hane, i, z, hi, hsz, hb, hz, hpk⟩ := sl_und hT hti hty
  rw [han] at hane
  simp only [An.own.injEq] at hane
  obtain ⟨rfl, rfl⟩ := hane
  have hae : ae.ok = true := by have := (hT t ti hti).1.anok; rw [han] at this; exact this
  obtain ⟨a, hn⟩ := hn
  obtain ⟨en, -⟩ := opnd_int h hn
  have hzl : z.cells.toList = zeroCs e := hpk.cells (zero_one e)
  have hzs : (zeroCs e).length = e.sz := zeroCs_len e
  refine newrow_ok h hod hd (Tk.none h (R1 := []) (by simp)) (cells := madeCells z.cells (k.toNat * i.size)) fun hp => ?_
  obtain ⟨h0, h1⟩ := hp _ rfl
  obtain ⟨m', rfl⟩ := Int.eq_ofNat_of_zero_le h0
  have hm' : m' ≤ 4294967296 := by omega
  simp only [Int.toNat_natCast, List.length_replicate]
  refine ⟨by simp, ?_, by unfold maxEl; omega, by rw [size_madeCells, hsz], ?_⟩
  · rw [hsz, ← hzs, madeCells_eq hzl (by rw [hzs]; exact e.sz_pos)]
    exact repL_replicate hae m'
  · have hbn : i.bytes * m' ≤ 281474976710656 := by
      have := Nat.mul_le_mul hb hm'
      omega
    have hr := run_make (P := P) w t el i z hu hi hz .i64 .i64 (m' : Int) (m' : Int) (by omega) (Int.le_refl _) (by
      have h2 : ((i.bytes * m' : Nat) : Int) ≤ 281474976710656 := by omega
      rwa [Int.natCast_mul] at h2) (by omega)
    simp only [Int.toNat_natCast] at hr
    simp only [execOp, ho, hm, en, Sem.run_bind, hr]
    rfl

end
end Go.Vm

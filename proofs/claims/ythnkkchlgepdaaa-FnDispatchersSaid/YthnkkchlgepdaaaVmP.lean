/- Operations of the evaluator Vm are the machine's: elements, lengths, slices. Own work; lemmas. No condition. -/
import Derived.Test.YthnkkchlgepdaaaVmO
namespace Go.Vm
open Go.RowKit
set_option linter.unusedVariables false

section
variable {P : Program} {w : World} {env : Env} {tmps : Array Value} {Of Rf : Nat → List Nat} {o : Oper} {d : Nat}

theorem own_hdr {e : Ty} {el : TypeId} {ae : An} {xs : List e.den} {hd : Value} {O1 R1 : List Nat} (h : Rep w (.sl e) (.own el ae) xs [hd] O1 R1) :
    (hd = .slice none 0 0 ∧ xs = []) ∨ ∃ g cap cur cells O', hd = .slice (some ⟨g, 0, none⟩) xs.length cap ∧ w.heap[g]? = some (.cells cur el (0, 0)) ∧ xs.length ≤ cap ∧ cap ≤ maxLen ∧ cur.size = cap * e.sz ∧
      cur.toList.take (xs.length * e.sz) = cells ∧ O1 = g :: O' ∧ RepL (Rep w e ae) xs cells O' R1 := by
  obtain ⟨v, cells, O', hv, ho, hm, rfl, hl⟩ := h
  simp only [List.cons.injEq, and_true] at hv
  subst hv
  rcases ho.2 with ⟨rfl, h0⟩ | ⟨g, cap, cur, rfl, hb, hg, h1, h2, h3, h4⟩
  · exact .inl ⟨rfl, List.eq_nil_of_length_eq_zero h0⟩
  · exact .inr ⟨g, cap, cur, cells, O', rfl, hg, h1, h2, h3, h4, rfl, hl⟩

theorem loc_snoc {t : Ty} {a : An} {x : t.den} {cs : List Value} {bk : Option (Nat × Nat)} {st : List (Nat × Nat)} {cs1 : List Value} {bk1 : Option (Nat × Nat)} (h : loc w t a x cs bk st = some (cs1, bk1)) {d1 : Dat} (hg : getP ⟨t, a, x⟩ st = some d1)
    {off i : Nat} {e : Ty} {el : TypeId} {ae : An} {xs : List e.den} (hs : sub d1.t d1.a d1.x off 1 = some ⟨.sl e, .own el ae, xs⟩) {p : Addr} {n cap : Nat} (hc : cs1[off]? = some (.slice (some p) n cap)) (hi : i < xs.length) :
    loc w t a x cs bk (st ++ [(off, i)]) = some (cellsAt w p.block (i * e.sz) e.sz, some (p.block, i * e.sz)) := by
  induction st generalizing t a cs bk with
  | nil =>
    simp only [loc, Option.some.injEq, Prod.mk.injEq] at h
    simp only [getP, Option.some.injEq] at hg
    obtain ⟨rfl, rfl⟩ := h
    subst hg
    simp only [List.nil_append, loc, hs, hc, if_pos hi]
  | cons q st ih =>
    obtain ⟨o', i'⟩ := q
    simp only [List.cons_append, loc] at h ⊢
    simp only [getP] at hg
    split at h
    · rename_i e' el' ae' xs' p' n' cap' hs' hc'
      simp only [hs'] at hg
      split at h
      · rename_i hi'
        rw [if_pos hi']
        exact ih h hg
      · cases h
    · cases h

theorem rdR_parts {l : Lk} {dd : Dat} (hr : rdR env l = some dd) : freshR env l = true ∧ ∃ D d1, (get env l.s).v.obj? = some D ∧ getP D l.st = some d1 ∧ sub d1.t d1.a d1.x l.off 1 = some dd := by
  unfold rdR at hr
  cases hf : freshR env l with
  | false => rw [hf] at hr; simp at hr
  | true =>
    rw [hf] at hr
    simp only [cond_true] at hr
    refine ⟨rfl, ?_⟩
    cases hv : (get env l.s).v.obj? with
    | none => simp [hv] at hr
    | some D =>
      simp only [hv, Option.bind_some] at hr
      cases hg : getP D l.st with
      | none => simp [hg] at hr
      | some d1 => simp only [hg, Option.bind_some] at hr; exact ⟨D, d1, rfl, hg, hr⟩

theorem cutL_len {α : Type} {xs : List α} {cut : Option (Nat × Nat × Nat)} {hd : Value} {p : Option Addr} {cap : Nat} (hh : hd = .slice p xs.length cap) (hc : CutOk hd cut) :
    ∃ p' cap', cutV hd cut = .slice p' (cutL xs cut).length cap' ∧ cutLo cut + (cutL xs cut).length ≤ xs.length := by
  subst hh
  cases cut with
  | none => exact ⟨p, cap, rfl, by simp [cutLo, cutL]⟩
  | some c =>
    obtain ⟨lo, n, sz⟩ := c
    obtain ⟨p', len', cap', he, hle⟩ := hc
    simp at he
    obtain ⟨rfl, rfl, rfl⟩ := he
    have : (cutL xs (some (lo, n, sz))).length = n := by simp [cutL]; omega
    rw [this]
    exact ⟨_, _, rfl, hle⟩

theorem sl_und {T : Tab} (hT : TabOk P T) {t : TypeId} {ti : TI} (ht : T.at t = some ti) {e : Ty} (he : ti.ty = .sl e) : ∃ el ae, P.underlying t = some (.slice el) ∧ ti.an = .own el ae ∧ InfoOk P el e := (hT t ti ht).1.slice e he

theorem indexAddr_ok {T : Tab} (hT : TabOk P T) (h : Rel w env tmps Of Rf) (hod : o.dst = some d) (hd : d < env.length) {t : TypeId} {x i : Operand} (ho : o.op = .indexAddr t x i) {a : An} {n : Int} (hi : opnd env i = .dat (.int .i64) a n) :
    OpOk P w env tmps Of Rf o (indexAddrAct T env d t (opnd env x) n) := by
  obtain ⟨ei, -⟩ := opnd_int h hi
  obtain ⟨R', hs, hR⟩ := opnd_ok h x
  unfold indexAddrAct
  split
  · rename_i ti l cut ht hx
    rw [hx] at hs
    split
    · rename_i e el ae xs e' hrd hty
      cases hc : (e.sz == e'.sz && cutSz cut e.sz) with
      | false => exact OpOk.bad
      | true =>
        simp only [cond_true]
        simp at hc
        obtain ⟨el', ae', hu, -, i', z', hi', hsz', -⟩ := sl_und hT ht hty
        obtain ⟨cs1, bk, hd', O1, R1, hxv, hck, hloc, hcs, hrep, -, -, -⟩ := rdR_ok h hs.2.2 hrd
        obtain ⟨hf, D, d1, hob, hgp, hsb⟩ := rdR_parts hrd
        refine OpOk.put0 h hod hd fun hp => ?_
        obtain ⟨hn0, hn1⟩ := hp _ rfl
        obtain ⟨m, rfl⟩ := Int.eq_ofNat_of_zero_le hn0
        have hrep' : Rep w (.sl e) (.own el ae) xs [hd'] O1 R1 := hrep
        clear hrep
        rcases own_hdr hrep' with ⟨rfl, rfl⟩ | ⟨g, cap, cur, cells, O', rfl, hg, hcap, hcap2, hsz, htk, -, -⟩
        · exfalso
          cases cut <;> simp [cutL] at hn1 <;> omega
        · have hm : m < (cutL xs cut).length := by omega
          have hcl : cutLo cut + (cutL xs cut).length ≤ xs.length := by
            obtain ⟨_, _, _, h⟩ := cutL_len (xs := xs) (cut := cut) rfl hck; exact h
          have hix : cutLo cut + m < xs.length := by omega
          obtain ⟨p', cap', hcv⟩ : ∃ p cap', cutV (.slice (some ⟨g, 0, none⟩) xs.length cap) cut = .slice (some p) (cutL xs cut).length cap' ∧ p = ⟨g, cutLo cut * e.sz, none⟩ := by
            cases cut with
            | none => exact ⟨_, cap, rfl, by simp [cutLo]⟩
            | some c =>
              obtain ⟨lo, n', sz⟩ := c
              have hz : sz = e.sz := by simpa [cutSz] using hc.2
              subst hz
              have hlen : (cutL xs (some (lo, n', e.sz))).length = n' := by
                obtain ⟨p'', len', cap'', he, hle⟩ := hck
                simp at he
                obtain ⟨-, rfl, -⟩ := he
                simp [cutL]; omega
              simp only [cutLo] at hix
              refine ⟨_, cap - lo, ?_, rfl⟩
              simp only [cutV]
              rw [if_neg (by omega), hlen]
              simp [Addr.add_lit, cutLo]
          obtain ⟨hcv, rfl⟩ := hcv
          rw [hcv] at hxv
          refine ⟨by simp, .pointer (some ⟨g, (cutLo cut + m) * e.sz, none⟩), [], ?_, ⟨rfl, rfl, Nat.le_refl _, fun _ => ?_⟩, by simp⟩
          · have hm' : ¬ (cutL xs cut).length ≤ m := by omega
            simp [execOp, ho, Instr.indexAt, hxv, ei, asIntOf, run_underlying hu, hm', hm, sizeOf, typeInfo, hi', hsz', ← hc.1, Addr.add_lit, Nat.add_mul]
          · obtain ⟨cs0, bk0, O, pre, hob', hrep0, hO, -⟩ := h.content hob
            unfold locOf at hloc ⊢
            rw [hob'] at hloc ⊢
            simp only at hloc ⊢
            refine ⟨cellsAt w g ((cutLo cut + m) * e.sz) e.sz, g, (cutLo cut + m) * e.sz, ?_, by simp⟩
            have := loc_snoc hloc hgp hsb hcs hix
            simpa using this
    · exact OpOk.bad
  · rename_i ti e a' xs ht hx
    obtain rfl := opnd_ro hx
    rw [hx] at hs
    obtain ⟨cs, hk, hr⟩ := hs
    have hk' : cs = [Go.Act.eval ⟨tmps, []⟩ x] := hk
    subst hk'
    split
    · rename_i e' hty
      cases hc : (e.sz == e'.sz) with
      | false => exact OpOk.bad
      | true =>
        simp only [cond_true]
        simp at hc
        obtain ⟨el', ae', hu, -, i', z', hi', hsz', -⟩ := sl_und hT ht hty
        refine OpOk.put0 h hod hd fun hp => ?_
        obtain ⟨hn0, hn1⟩ := hp _ rfl
        obtain ⟨m, rfl⟩ := Int.eq_ofNat_of_zero_le hn0
        have hm : m < List.length xs := by omega
        rcases hr.2 with ⟨-, hx0, -⟩ | ⟨b, off, cap, cells, R1, hxv, -, -, hu', rfl, hl⟩
        · subst hx0; simp at hm
        · simp only [List.cons.injEq, and_true] at hxv
          have hgx : (xs : List e.den)[m]? = some (xs : List e.den)[m] := by simp [hm]
          obtain ⟨d0, d1, d2, P0, P1, P2, Q0, Q1, Q2, hcells, hl', hP, rfl, hd', -⟩ := hl.focus (f := fun w => Rep w e .ro) (n := e.sz) (w := w)
            (fun w x c O1 R1 h => h.len.1) (fun w w' x c O1 R1 h ho hr => h.frame ho hr) hgx
          have hP1 : P1 = [] := by have := congrArg List.length hP; simp at this; exact List.eq_nil_of_length_eq_zero (by omega)
          subst hP1
          refine ⟨by simp, .pointer (some ⟨b, off + m * e.sz + 0, none⟩), b :: Q1, ?_, ⟨rfl, b, off + m * e.sz, d1, Q1, rfl, ?_, ?_, rfl⟩, ?_⟩
          · have hm' : ¬ List.length xs ≤ m := by omega
            simp [execOp, ho, Instr.indexAt, hxv, ei, asIntOf, run_underlying hu, hm', hm, sizeOf, typeInfo, hi', hsz', ← hc, Addr.add_lit]
          · have : List.getD (xs : List e.den) m e.dflt = (xs : List e.den)[m] := by simp [List.getD, hm]
            simp only [Int.toNat_natCast]
            rw [this]; exact hd'
          · intro j u hju
            have := hu' (m * e.sz + j) u (by
              rw [hcells, ← hl', List.append_assoc, List.getElem?_append_right (by omega), Nat.add_sub_cancel_left, List.getElem?_append_left (List.getElem?_eq_some_iff.1 hju).1]
              exact hju)
            rwa [← Nat.add_assoc] at this
          · intro b' hb'
            exact hR b' (by simp at hb' ⊢; grind)
    · exact OpOk.bad
  · exact OpOk.bad

end
end Go.Vm

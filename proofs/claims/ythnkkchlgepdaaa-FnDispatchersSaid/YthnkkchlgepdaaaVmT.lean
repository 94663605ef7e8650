/- append in the evaluator Vm is the machine's. Own work; lemmas. No condition. -/
import Derived.Test.YthnkkchlgepdaaaVmS
import Derived.ArgAppend
namespace Go.Vm
open Go.RowKit
set_option linter.unusedVariables false

section
variable {P : Program} {w : World} {env : Env} {tmps : Array Value} {Of Rf : Nat → List Nat} {o : Oper} {d : Nat}

theorem ownsRow_base {base : Nat} {e : TypeId} {size : Nat} {v : Value} {n : Nat} {xs : List Value} (h : w.ownsRow base e size v n xs) : w.ownsRow 0 e size v n xs := by
  refine ⟨h.1, ?_⟩
  rcases h.2 with h | ⟨g, cap, cur, h1, h2, h3⟩
  · exact .inl h
  · exact .inr ⟨g, cap, cur, h1, Nat.zero_le _, h3⟩

/-- append's two arms, and where its row lies -/
theorem append_run {t ty e : TypeId} {i : TypeInfo} {z : Value} (ht : P.underlying t = some (.slice e)) (hi : P.info? e = some i) (hz : i.zero = some z) (hzs : z.cells.size = i.size) (hsz : 0 < i.size)
    {v : Value} {n : Nat} {xs : List Value} (hown : w.ownsRow 0 e i.size v n xs) {p : Option Addr} {m c : Nat} {news : List Value} (hl : news.length = m * i.size)
    (hnews : (p = none ∧ m = 0) ∨ ∃ a, p = some a ∧ ∀ j u, news[j]? = some u → w.cell? (a.add j) = some u) (h1 : ∀ u ∈ news, u.oneCell' = true)
    (h63 : n + m ≤ maxLen) (hbytes : (n + m) * i.bytes ≤ 140737488355328) :
    ∃ v' w', (Builtin.append_ #[t, t] ty #[v, .slice p m c]).run P w = .ok v' w' ∧ w'.ownsRow 0 e i.size v' (n + m) (xs ++ news) ∧ w.grownBy w' v.ownBlock ∧
      ∀ g, v'.ownBlock = some g → v.ownBlock = some g ∨ w.heap.size ≤ g := by
  rcases hnews with ⟨rfl, rfl⟩ | ⟨a, rfl, hnews⟩
  · have hn : news = [] := List.eq_nil_of_length_eq_zero (by simpa using hl)
    subst hn
    refine ⟨v, w, ?_, by simpa using hown, ⟨rfl, rfl, rfl, Nat.le_refl _, fun _ _ _ => rfl⟩, fun g hg => .inl hg⟩
    rcases hown.2 with ⟨rfl, rfl⟩ | ⟨g, cap, cur, rfl, _, _, hnc, _⟩
    · simp [Builtin.append_, run_underlying ht, sizeOf, typeInfo, hi, Builtin.lenOf, Builtin.firstCells]
    · simp [Builtin.append_, run_underlying ht, sizeOf, typeInfo, hi, Builtin.lenOf, Builtin.firstCells, hnc, storeCells]
  · rcases hown.2 with ⟨rfl, rfl⟩ | ⟨g, cap, cur, rfl, hb, hg, hnc, hcm, hcs, htk⟩
    · have hx : xs = [] := List.eq_nil_of_length_eq_zero (by simpa using hown.1)
      subst hx
      obtain ⟨v', w', hr, ho, hgr, -⟩ := run_append_own (P := P) w w.heap.size t ty e i z i.size i.bytes ht hi hz rfl rfl hzs hsz _ 0 [] (World.ownsRow_nil w w.heap.size e i.size) a m c news hl hnews h1 h63 hbytes (Nat.le_refl _)
      exact ⟨v', w', hr, ownsRow_base ho, hgr, fun g hg => .inr (ho.lt g hg).1⟩
    · by_cases hroom : n + m ≤ cap
      · obtain ⟨w', hr, ho, hgr⟩ := run_append_fits (P := P) w 0 t ty e i i.size ht hi rfl g n cap xs hown a m c news hl hnews h1 hroom
        exact ⟨_, w', hr, ho, hgr, fun g' hg' => .inl hg'⟩
      · have holds : ∀ j u, xs[j]? = some u → w.cell? ((⟨g, 0, none⟩ : Addr).add j) = some u := hown.cells (g := g) rfl
        obtain ⟨v', w', hr, ho, hgr⟩ := run_append_arg_grows (P := P) w t ty e i z i.size i.bytes ht hi hz rfl rfl hzs hsz ⟨g, 0, none⟩ n cap xs hown.1 holds a m c news hl hnews (by omega) h63 hbytes
        exact ⟨v', w', hr, ownsRow_base ho, ⟨hgr.os, hgr.tape, hgr.output, hgr.size, fun k hk _ => hgr.block k hk (by simp)⟩, fun g hg => .inr (ho.lt g hg).1⟩

/-- a slice of the holder's own, cut -/
theorem own_cut {e : Ty} {el : TypeId} {a : An} {ys : List e.den} {hd : Value} {O R : List Nat} (h : Rep w (.sl e) (.own el a) ys [hd] O R) {cut : Option (Nat × Nat × Nat)} (hc : CutOk hd cut) (hz : cutSz cut e.sz = true) :
    ∃ p cap news O2 R2, cutV hd cut = .slice p (cutL ys cut).length cap ∧ RepL (Rep w e a) (cutL ys cut) news O2 R2 ∧ O2.Sublist O ∧ R2.Sublist R ∧
      ((p = none ∧ (cutL ys cut).length = 0) ∨ ∃ ad, p = some ad ∧ ∀ j u, news[j]? = some u → w.cell? (ad.add j) = some u) := by
  rcases own_hdr (xs := ys) h with ⟨rfl, rfl⟩ | ⟨g, cap, cur, cells, O', rfl, hg, hn, hcm, hsz, htk, rfl, hl⟩
  · obtain ⟨p', cap', hcv, -⟩ := cutL_len (xs := ([] : List e.den)) (hd := .slice none 0 0) rfl hc
    have h0 : cutL ([] : List e.den) cut = [] := by cases cut <;> simp [cutL]
    have hp : p' = none := by
      cases cut with
      | none => simp [cutV, cutL] at hcv; exact hcv.1.symm
      | some c => obtain ⟨lo, n, z⟩ := c; simp [cutV] at hcv; exact hcv.1.symm
    subst hp
    exact ⟨none, cap', [], [], [], hcv, by rw [h0]; exact ⟨rfl, rfl, rfl⟩, List.nil_sublist _, List.nil_sublist _, .inl ⟨rfl, by rw [h0]; rfl⟩⟩
  · have hcell : ∀ j u, cells[j]? = some u → w.cell? ⟨g, j, none⟩ = some u := by
      intro j u hj
      rw [cell_at hg]
      rw [← htk, List.getElem?_take] at hj
      split at hj
      · exact hj
      · cases hj
    cases cut with
    | none =>
      exact ⟨_, cap, cells, O', R, rfl, hl, List.sublist_cons_self _ _, List.Sublist.refl _, .inr ⟨_, rfl, fun j u hj => by rw [Addr.add_lit]; simpa using hcell j u hj⟩⟩
    | some c =>
      obtain ⟨lo, n, z⟩ := c
      have hz' : z = e.sz := by simpa [cutSz] using hz
      subst hz'
      obtain ⟨p'', len', cap'', he, hle⟩ := hc
      simp at he
      obtain ⟨-, rfl, rfl⟩ := he
      have hlen : (cutL ys (some (lo, n, e.sz))).length = n := by simp [cutL]; omega
      have hf : ∀ (x : e.den) (c : List Value) (O1 R1 : List Nat), Rep w e a x c O1 R1 → c.length = e.sz := fun x c O1 R1 h => h.len.1
      obtain ⟨Oa, Ob, Ra, Rb, rfl, rfl, h1, h2⟩ := hl.cut hf lo
      obtain ⟨Oc, Od, Rc, Rd, rfl, rfl, h3, h4⟩ := h2.cut hf n
      rw [hlen]
      refine ⟨_, cap - lo, _, Oc, Rc, rfl, h3, ?_, ?_, ?_⟩
      · refine List.Sublist.trans ?_ (List.sublist_cons_self _ _)
        exact List.Sublist.trans (List.sublist_append_left _ _) (List.sublist_append_right _ _)
      · exact List.Sublist.trans (List.sublist_append_left _ _) (List.sublist_append_right _ _)
      · refine .inr ?_
        by_cases hcl : cap = lo
        · refine ⟨⟨g, 0, none⟩, by rw [if_pos hcl], fun j u hj => ?_⟩
          have : n = 0 := by omega
          subst this
          simp at hj
        · refine ⟨⟨g, lo * e.sz, none⟩, by rw [if_neg hcl]; simp [Addr.add_lit], fun j u hj => ?_⟩
          rw [Addr.add_lit]
          apply hcell
          rw [List.getElem?_take] at hj
          split at hj
          · rw [List.getElem?_drop] at hj; exact hj
          · cases hj

theorem ref_whole {l : Lk} {cut : Option (Nat × Nat × Nat)} {x : Value} (h : RefOk w env tmps l cut x) (hf : freshR env l = true) : ∃ hd, RefOk w env tmps l none hd ∧ x = cutV hd cut ∧ CutOk hd cut := by
  obtain ⟨cs, bk, hd, h1, h2, h3, h4⟩ := h.2 hf
  refine ⟨hd, ⟨h.1, fun _ => ⟨cs, bk, hd, h1, h2, ?_, rfl⟩⟩, h4, h3⟩
  cases cut with
  | none => exact h3
  | some c => obtain ⟨lo, n, z⟩ := c; obtain ⟨p, len, cap, h, -⟩ := h3; exact ⟨p, len, cap, h⟩

theorem takeL_fresh {e0 : Env} {t : Ty} {l : Lk} {q : Took t} {rest : List Cel} (h : takeL e0 t env [.ref l] = some (q, rest)) : freshR e0 l = true := by
  simp only [takeL] at h
  cases hf : (l.st.isEmpty && freshR e0 l) with
  | false => simp [hf] at h
  | true => simp at hf; exact hf.2

theorem takeC_fresh {e0 : Env} {l : Lk} : ∀ (t : Ty) (q : Took t) (rest : List Cel), takeC e0 t env [.ref l] = some (q, rest) → freshR e0 l = true
  | .pair t u, q, rest, h => by
    simp only [takeC] at h
    cases h1 : takeC e0 t env [.ref l] with
    | none => simp [h1] at h
    | some p => exact takeC_fresh t p.1 p.2 h1
  | .int k, _, _, h => takeL_fresh h
  | .bool, _, _, h => takeL_fresh h
  | .str, _, _, h => takeL_fresh h
  | .sl e, _, _, h => takeL_fresh h

theorem takeV_fresh {e0 : Env} {t : Ty} {an : An} {l : Lk} {q : Took t} (h : takeV e0 env t an (.ref l none) = some q) : freshR e0 l = true := by
  simp only [takeV, Option.map_eq_some_iff] at h
  obtain ⟨⟨q', rest⟩, h, -⟩ := h
  exact takeC_fresh t q' rest h

theorem takeDst_ok (h : Rel w env tmps Of Rf) {e : Ty} {el : TypeId} {x : Operand} {p : Took (.sl e)} (hq : takeDst env e el (opnd env x) = some p) :
    ∃ cells O1 O2 R1 R2 Of1 Rf1, w.ownsRow 0 el e.sz (Go.Act.eval ⟨tmps, []⟩ x) (p.x : List e.den).length cells ∧ RepL (Rep w e p.a) (p.x : List e.den) cells O2 R2 ∧ R2.Sublist R1 ∧
      ((Go.Act.eval ⟨tmps, []⟩ x).ownBlock.toList ++ O2).Sublist O1 ∧ (p.a = .hole → (p.x : List e.den) = []) ∧ Tk w tmps env Of Rf p.env Of1 Rf1 p.ws O1 R1 := by
  obtain ⟨R', hs, hR⟩ := opnd_ok h x
  unfold takeDst at hq
  split at hq
  · rename_i l cut hx
    rw [hx] at hs
    cases hc0 : (cutLo cut == 0) with
    | false => simp [hc0] at hq
    | true =>
      simp only [hc0, cond_true] at hq
      have hc0' : cutLo cut = 0 := by simpa using hc0
      cases htk : takeV env env (.sl e) .ro (.ref l none) with
      | none => simp [htk] at hq
      | some q =>
        simp only [htk, Option.bind_some] at hq
        split at hq
        · rename_i el' a hqa
          cases hb : (el' == el) && !(a == .hole) with
          | false => simp [hb] at hq
          | true =>
            simp only [hb, cond_true, Option.some.injEq] at hq
            subst hq
            simp at hb
            obtain ⟨rfl, hah⟩ := hb
            obtain ⟨hd, hrf, hxv, hck⟩ := ref_whole hs.2.2 (takeV_fresh htk)
            obtain ⟨cs, O1, R1, Of1, Rf1, hk, hrep, hk1⟩ := takeV_ok h (v := .ref l none) ⟨rfl, rfl, hrf⟩ (by simp) htk
            have : cs = [hd] := hk
            subst this
            rw [hqa] at hrep
            rcases own_hdr (xs := q.x) hrep with ⟨rfl, hx0⟩ | ⟨g, cap, cur, cells, O', rfl, hg, hn, hcm, hsz, htk2, rfl, hl⟩
            · have h0 : cutL (q.x : List e.den) cut = [] := by rw [hx0]; cases cut <;> simp [cutL]
              obtain ⟨p', cap', hcv, -⟩ := cutL_len (xs := ([] : List e.den)) (hd := .slice none 0 0) rfl hck
              have hxn : Go.Act.eval ⟨tmps, []⟩ x = .slice none 0 0 := by
                rw [hxv]
                cases cut with
                | none => rfl
                | some c =>
                  obtain ⟨lo, n, z⟩ := c
                  obtain ⟨p'', len', cap'', he, hle⟩ := hck
                  simp at he
                  obtain ⟨-, rfl, rfl⟩ := he
                  have : lo = 0 ∧ n = 0 := by omega
                  obtain ⟨rfl, rfl⟩ := this
                  simp [cutV]
              refine ⟨[], O1, [], R1, [], Of1, Rf1, ?_, ?_, List.nil_sublist _, ?_, fun _ => h0, hk1⟩
              · show w.ownsRow 0 el' e.sz _ (cutL (q.x : List e.den) cut).length []
                rw [hxn, h0]; exact World.ownsRow_nil w 0 el' e.sz
              · show RepL (Rep w e a) (cutL (q.x : List e.den) cut) [] [] []
                rw [h0]; exact ⟨rfl, rfl, rfl⟩
              · rw [hxn]; exact List.nil_sublist _
            · have hmid : ∃ n, cutL (q.x : List e.den) cut = (q.x : List e.den).take n ∧ n ≤ (q.x : List e.den).length ∧ Go.Act.eval ⟨tmps, []⟩ x = .slice (some ⟨g, 0, none⟩) n cap := by
                rw [hxv]
                cases cut with
                | none => exact ⟨(q.x : List e.den).length, by simp [cutL], Nat.le_refl _, rfl⟩
                | some c =>
                  obtain ⟨lo, n, z⟩ := c
                  obtain ⟨p'', len', cap'', he, hle⟩ := hck
                  simp at he
                  obtain ⟨-, rfl, rfl⟩ := he
                  have : lo = 0 := hc0'
                  subst this
                  exact ⟨n, by simp [cutL], by omega, by simp [cutV, Addr.add_lit]⟩
              obtain ⟨n, hcn, hnl, hxn⟩ := hmid
              have hf : ∀ (x : e.den) (c : List Value) (O1 R1 : List Nat), Rep w e a x c O1 R1 → c.length = e.sz := fun x c O1 R1 h => h.len.1
              obtain ⟨Oa, Ob, Ra, Rb, rfl, rfl, h1, h2⟩ := hl.cut hf n
              have hlen : (cutL (q.x : List e.den) cut).length = n := by rw [hcn]; simp; omega
              have hnsz : n * e.sz ≤ (q.x : List e.den).length * e.sz := Nat.mul_le_mul_right _ hnl
              refine ⟨cells.take (n * e.sz), _, Oa, _, Ra, Of1, Rf1, ?_, ?_, List.sublist_append_left _ _, ?_, fun ha => absurd ha hah, hk1⟩
              · show w.ownsRow 0 el' e.sz _ (cutL (q.x : List e.den) cut).length _
                rw [hlen, hxn]
                refine ⟨?_, .inr ⟨g, cap, cur, rfl, Nat.zero_le _, hg, by omega, hcm, hsz, ?_⟩⟩
                · have := (hl.len (n := e.sz) fun x c O R hx => hx.len).1
                  rw [List.length_take, this]; omega
                · rw [← htk2, List.take_take]; congr 1; omega
              · show RepL (Rep w e a) (cutL (q.x : List e.den) cut) _ _ _
                rw [hcn]; exact h1
              · rw [hxn]
                simp only [Value.ownBlock, Option.toList_some, List.singleton_append]
                exact List.Sublist.cons_cons _ (List.sublist_append_left _ _)
        · cases hq
  · rename_i hx
    rw [hx] at hs
    cases hq
    obtain ⟨-, -, hx0⟩ := hs
    rw [hx0]
    exact ⟨[], [], [], [], [], Of, Rf, World.ownsRow_nil w 0 el e.sz, ⟨rfl, rfl, rfl⟩, List.Sublist.refl _, by simp [Value.ownBlock], fun _ => rfl, Tk.none h (by simp)⟩
  · cases hq

theorem RepL.plain {e : Ty} {a : An} {ys : List e.den} {cells : List Value} {O R : List Nat} (h : RepL (Rep w e a) ys cells O R) (hp : a.plain = true) : O = [] ∧ RepL (Rep w e .ro) ys cells [] R := by
  induction ys generalizing cells O R with
  | nil => obtain ⟨rfl, rfl, rfl⟩ := h; exact ⟨rfl, rfl, rfl, rfl⟩
  | cons y ys ih =>
    obtain ⟨c1, c2, O1, O2, R1, R2, rfl, rfl, rfl, h1, h2⟩ := h
    obtain ⟨rfl, h1'⟩ := h1.ro_of hp
    obtain ⟨rfl, h2'⟩ := ih h2
    exact ⟨rfl, c1, c2, [], [], R1, R2, rfl, rfl, rfl, h1', h2'⟩

theorem takeSrc_ok {e0 : Env} {Of0 Rf0 : Nat → List Nat} (h : Rel w e0 tmps Of0 Rf0) {ws0 Oa Ra : List Nat} (k : Tk w tmps e0 Of0 Rf0 env Of Rf ws0 Oa Ra) {e : Ty} {x : Operand} {p : Took (.sl e)} (hq : takeSrc e0 env e (opnd e0 x) = some p) :
    ∃ pa cap news O1 O2 R1 R2 Of1 Rf1, Go.Act.eval ⟨tmps, []⟩ x = .slice pa (p.x : List e.den).length cap ∧ RepL (Rep w e p.a) (p.x : List e.den) news O2 R2 ∧ R2.Sublist R1 ∧ O2.Sublist O1 ∧
      ((pa = none ∧ (p.x : List e.den).length = 0) ∨ ∃ ad, pa = some ad ∧ ∀ j u, news[j]? = some u → w.cell? (ad.add j) = some u) ∧
      (p.a = .hole → (p.x : List e.den) = []) ∧ Tk w tmps e0 Of0 Rf0 p.env Of1 Rf1 (ws0 ++ p.ws) (Oa ++ O1) (Ra ++ R1) := by
  obtain ⟨R', hs, hR⟩ := opnd_ok h x
  unfold takeSrc at hq
  split at hq
  · rename_i l cut hx
    rw [hx] at hs
    split at hq
    · rename_i u el a ys hrd
      obtain ⟨cs1, bk, hd', O1, R1, hxv, hck, hloc, hcs, hrep, hO1, hR1, -⟩ := rdR_ok h hs.2.2 hrd
      cases hz : cutSz cut u.sz with
      | false => simp [hz] at hq
      | true =>
        simp only [hz, Bool.not_true, cond_false] at hq
        cases hp : a.plain with
        | true =>
          simp only [hp, cond_true, Option.map_eq_some_iff] at hq
          obtain ⟨r, hr, rfl⟩ := hq
          obtain ⟨he, rfl⟩ := Dat.as_mk hr
          cases he
          obtain ⟨pa, cap, news, O2, R2, h1, h2, h3, h4, h5⟩ := own_cut (ys := ys) hrep hck hz
          obtain ⟨rfl, h2'⟩ := h2.plain hp
          refine ⟨pa, cap, news, [], [], R2, R2, Of, Rf, by rw [hxv]; exact h1, h2', List.Sublist.refl _, List.Sublist.refl _, h5, (fun h => by cases h), ?_⟩
          simpa using k.addR (R2 := R2) fun b hb => ⟨l.s, hR1 b (h4.subset hb)⟩
        | false =>
          simp only [hp, cond_false] at hq
          cases cut with
          | some c => cases hq
          | none =>
            simp only at hq
            cases htk : takeV e0 env (.sl e) .ro (.ref l none) with
            | none => simp [htk] at hq
            | some q =>
              simp only [htk, Option.bind_some] at hq
              split at hq
              · rename_i el' a' hqa
                cases hah : (a' == .hole) with
                | true => simp [hah] at hq
                | false =>
                  simp only [hah, Bool.not_false, cond_true, Option.some.injEq] at hq
                  subst hq
                  obtain ⟨cs, O3, R3, Of1, Rf1, hk, hrep3, hk1⟩ := takeV_gen h k (v := .ref l none) hs (by intro b hb; rw [hs.2.1] at hb; simp at hb) htk
                  have : cs = [Go.Act.eval ⟨tmps, []⟩ x] := hk
                  subst this
                  rw [hqa] at hrep3
                  obtain ⟨pa, cap, news, O2, R2, h1, h2, h3, h4, h5⟩ := own_cut (ys := q.x) hrep3 (cut := none) (let ⟨⟨p, cap, h⟩, _⟩ := hdr_len (xs := q.x) hrep3 (by simp); ⟨p, _, cap, h⟩) rfl
                  exact ⟨pa, cap, news, O3, O2, R3, R2, Of1, Rf1, h1, h2, h4, h3, h5, fun h => by rw [show a' = .hole from h] at hah; simp at hah, hk1⟩
              · cases hq
    · cases hq
  · rename_i u ys hx
    rw [hx] at hs
    rw [Option.map_eq_some_iff] at hq
    obtain ⟨r, hr, rfl⟩ := hq
    obtain ⟨he, rfl⟩ := Dat.as_mk hr
    cases he
    have hrep : Rep w (.sl e) .ro ys [Go.Act.eval ⟨tmps, []⟩ x] [] R' := ro_hdr rfl hs
    rcases hrep.2 with ⟨rfl, hys, pa, cap, hx1⟩ | ⟨b, off, cap, cells, R1, hx1, h0, hm, hu, rfl, hl⟩
    · have hys' : (ys : List e.den) = [] := hys
      simp at hx1
      refine ⟨pa, cap, [], [], [], [], [], Of, Rf, by rw [hx1]; simp [hys'], by rw [hys']; exact ⟨rfl, rfl, rfl⟩, List.Sublist.refl _, List.Sublist.refl _, ?_, (fun h => by cases h), by simpa using k⟩
      cases pa with
      | none => exact .inl ⟨rfl, by simp [hys']⟩
      | some ad => exact .inr ⟨ad, rfl, by simp⟩
    · simp at hx1
      exact ⟨_, cap, cells, [], [], b :: R1, R1, Of, Rf, hx1, hl, List.sublist_cons_self _ _, List.Sublist.refl _, .inr ⟨_, rfl, fun j u hj => by rw [Addr.add_lit]; exact hu j u hj⟩, (fun h => by cases h),
        by simpa using k.addR (R2 := b :: R1) hR⟩
  · rename_i hx
    rw [hx] at hs
    cases hq
    exact ⟨none, 0, [], [], [], [], [], Of, Rf, hs.2.2, ⟨rfl, rfl, rfl⟩, List.Sublist.refl _, List.Sublist.refl _, .inl ⟨rfl, rfl⟩, fun _ => rfl, by simpa using k⟩
  · cases hq

theorem coeL {e : Ty} {a b : An} {ys : List e.den} {cells : List Value} {O R : List Nat} (h : RepL (Rep w e a) ys cells O R) (hc : a = .hole ∧ ys = [] ∨ a.coe b = true) (hnd : O.Nodup) (hur : ∀ b ∈ O, b ∉ R) :
    ∃ O' R', RepL (Rep w e b) ys cells O' R' ∧ O'.Sublist O ∧ (∀ b ∈ R', b ∈ O ∨ b ∈ R) ∧ ∀ b ∈ O', b ∉ R' := by
  rcases hc with ⟨-, rfl⟩ | hc
  · obtain ⟨rfl, rfl, rfl⟩ := h
    exact ⟨[], [], ⟨rfl, rfl, rfl⟩, List.Sublist.refl _, by simp, by simp⟩
  · exact h.coe hnd hur fun x c O1 R1 hx h1 h2 => hx.coe hc h1 h2

theorem appendAct_ok {T : Tab} (hT : TabOk P T) (h : Rel w env tmps Of Rf) (hod : o.dst = some d) (hd : d < env.length) {t : TypeId} {S X : Operand} (ho : o.op = .call ⟨.builtin .append, #[S, X], #[t, t]⟩) :
    OpOk P w env tmps Of Rf o (appendAct T env d t (opnd env S) (opnd env X)) := by
  unfold appendAct
  split
  case h_2 => exact OpOk.bad
  rename_i ti hti
  split
  case h_2 => exact OpOk.bad
  rename_i e el ae0 hty han
  split
  case h_2 => exact OpOk.bad
  rename_i p hp
  split
  case h_2 => exact OpOk.bad
  rename_i q hq
  obtain ⟨cells, O1, O2, R1, R2, Of1, Rf1, hown, hl1, hs1, hs2, hh1, k1⟩ := takeDst_ok h hp
  obtain ⟨pa, cap, news, O3, O4, R3, R4, Of2, Rf2, hX, hl2, hs3, hs4, hnews, hh2, k2⟩ := takeSrc_ok h k1 hq
  generalize han' : (if p.a = .hole then (if q.a = .hole then ae0 else q.a) else if q.a = .hole then p.a else An.join p.a q.a) = an
  simp only
  cases hc : (p.a == .hole || p.a.coe an) && (q.a == .hole || q.a.coe an) with
  | false => exact OpOk.bad
  | true =>
    simp only [cond_true]
    simp at hc
    obtain ⟨el', ae', hu, hane, i, z, hi, hsz, hby, hz, hpk⟩ := sl_und hT hti hty
    rw [han] at hane
    simp only [An.own.injEq] at hane
    obtain ⟨rfl, rfl⟩ := hane
    have hzs : z.cells.size = i.size := by rw [← Array.length_toList, hpk.cells (zero_one e), zeroCs_len, hsz]
    have hcl := Tk.clean h k2
    have hnd := k2.nd
    have hltO : ∀ b, b ∈ O1 ++ O3 → b < w.heap.size := fun b hb => let ⟨s, hs⟩ := k2.fromO b hb; h.lt (.inl hs)
    have hltR : ∀ b, b ∈ R1 ++ R3 → b < w.heap.size := fun b hb => let ⟨s, hs⟩ := k2.fromR b hb; h.lt (.inr hs)
    rw [List.nodup_append] at hnd
    have hnd1 := hs2.nodup hnd.1
    rw [List.nodup_append] at hnd1
    have hO2 : ∀ b ∈ O2, b ∈ O1 := fun b hb => hs2.subset (by simp [hb])
    have hurA : ∀ b ∈ O2, b ∉ R2 := fun b hb hr => hcl.2.1 b (by simp [hO2 b hb]) (by simp [hs1.subset hr])
    have hurB : ∀ b ∈ O4, b ∉ R4 := fun b hb hr => hcl.2.1 b (by simp [hs4.subset hb]) (by simp [hs3.subset hr])
    obtain ⟨O2', R2', m1, m2, m3, m4⟩ := coeL (b := an) hl1 (by rcases hc.1 with hx | hx; exact .inl ⟨hx, hh1 hx⟩; exact .inr hx) hnd1.2.1 hurA
    obtain ⟨O4', R4', n1, n2, n3, n4⟩ := coeL (b := an) hl2 (by rcases hc.2 with hx | hx; exact .inl ⟨hx, hh2 hx⟩; exact .inr hx) (hs4.nodup hnd.2.1) hurB
    intro pre' hyp' env' ws' he hp'
    simp only [put, Act.ok.injEq] at he
    obtain ⟨rfl, rfl, rfl, rfl⟩ := he
    have hlen := hp' _ rfl
    have hmax : (p.x : List e.den).length + (q.x : List e.den).length ≤ maxLen := Nat.le_trans hlen (by decide)
    have hbytes : ((p.x : List e.den).length + (q.x : List e.den).length) * i.bytes ≤ 140737488355328 := Nat.le_trans (Nat.mul_le_mul hlen hby) (by decide)
    have hone : ∀ u ∈ news, u.oneCell' = true := (hl2.len (n := e.sz) fun x c O R hx => hx.len).2
    have hnl := (hl2.len (n := e.sz) fun x c O R hx => hx.len).1
    obtain ⟨v', w', hr, hrow, hgr, hblk⟩ := append_run (P := P) (ty := o.type) hu hi hz hzs (by rw [hsz]; exact e.sz_pos) (by rw [hsz]; exact hown) (c := cap) (by rw [hsz]; exact hnl) hnews hone hmax hbytes
    rw [hsz] at hrow
    have hrun : (execOp (Go.Act.eval ⟨tmps, []⟩) o).run P w = .ok (.value v') w' := by
      simp only [execOp, ho, resolve, invoke, builtin, Sem.run_bind, Sem.run_pure, Result.andThen_ok, List.map_toArray, List.map_cons, List.map_nil, hX, hr]
    -- the row that append writes
    have hg1 : ∀ g, (Go.Act.eval ⟨tmps, []⟩ S).ownBlock = some g → g ∈ O1 := fun g hg => hs2.subset (by simp [hg])
    have same : ∀ b, b < w.heap.size → b ∉ O1 ∨ b ∈ O2 → w'.heap[b]? = w.heap[b]? := by
      intro b hb hor
      refine hgr.block b hb fun e => ?_
      rcases hor with hor | hor
      · exact hor (hg1 b e.symm)
      · exact hnd1.2.2 b (by rw [← e]; simp) b hor rfl
    have hO4 : ∀ b ∈ O4', b ∈ O3 := fun b hb => hs4.subset (n2.subset hb)
    have hO2' : ∀ b ∈ O2', b ∈ O2 := fun b hb => m2.subset hb
    have hR2' : ∀ b ∈ R2', b ∈ O2 ∨ b ∈ R1 := fun b hb => (m3 b hb).imp id fun hx => hs1.subset hx
    have hR4' : ∀ b ∈ R4', b ∈ O3 ∨ b ∈ R3 := fun b hb => (n3 b hb).imp (fun hx => hs4.subset hx) fun hx => hs3.subset hx
    have d13 : ∀ b, b ∈ O1 → b ∉ O3 := fun b hb hb' => hnd.2.2 b hb b hb' rfl
    have r1 : ∀ b, b ∈ R1 ∨ b ∈ R3 → b ∉ O1 := fun b hb hb' => hcl.2.1 b (by simp [hb']) (by simpa using hb)
    have r3 : ∀ b, b ∈ R1 ∨ b ∈ R3 → b ∉ O3 := fun b hb hb' => hcl.2.1 b (by simp [hb']) (by simpa using hb)
    have sameAll : ∀ b, b ∈ O2' ∨ b ∈ O4' ∨ b ∈ R2' ∨ b ∈ R4' → w'.heap[b]? = w.heap[b]? ∧ b < w.heap.size := by
      intro b hb
      rcases hb with hb | hb | hb | hb
      · have := hO2' b hb; have hlt := hltO b (by simp [hO2 b this]); exact ⟨same b hlt (.inr this), hlt⟩
      · have := hO4 b hb; have hlt := hltO b (by simp [this]); exact ⟨same b hlt (.inl fun hx => d13 b hx this), hlt⟩
      · rcases hR2' b hb with hx | hx
        · have hlt := hltO b (by simp [hO2 b hx]); exact ⟨same b hlt (.inr hx), hlt⟩
        · have hlt := hltR b (by simp [hx]); exact ⟨same b hlt (.inl (r1 b (.inl hx))), hlt⟩
      · rcases hR4' b hb with hx | hx
        · have hlt := hltO b (by simp [hx]); exact ⟨same b hlt (.inl fun hy => d13 b hy hx), hlt⟩
        · have hlt := hltR b (by simp [hx]); exact ⟨same b hlt (.inl (r1 b (.inr hx))), hlt⟩
    have hfin : RepL (Rep w' e an) ((p.x : List e.den) ++ (q.x : List e.den)) (cells ++ news) (O2' ++ O4') (R2' ++ R4') := by
      refine RepL.append ?_ ?_
      · exact m1.imp fun x _ c Oa Ra ho hr hx => hx.frame (fun b hb => (sameAll b (.inl (ho b hb))).1) (fun b hb => (sameAll b (.inr (.inr (.inl (hr b hb))))).1)
      · exact n1.imp fun x _ c Oa Ra ho hr hx => hx.frame (fun b hb => (sameAll b (.inr (.inl (ho b hb)))).1) (fun b hb => (sameAll b (.inr (.inr (.inr (hr b hb))))).1)
    have hvb : ∀ g, v'.ownBlock = some g → g ∈ O1 ∧ g ∉ O2 ∨ w.heap.size ≤ g := by
      intro g hg
      rcases hblk g hg with hx | hx
      · exact .inl ⟨hg1 g hx, fun hy => hnd1.2.2 g (by rw [hx]; simp) g hy rfl⟩
      · exact .inr hx
    refine ⟨by simp, _, w', tmps.setIfInBounds d v', fset Of2 d (v'.ownBlock.toList ++ (O2' ++ O4')), fset Rf2 d (R2' ++ R4'), hrun, by rw [hod]; exact ⟨_, rfl, rfl⟩, ?_⟩
    refine put_ok h k2 hd _ v' ⟨hgr.os, hgr.tape, hgr.output, hgr.size⟩ ?_ ?_ ?_ ?_ ?_ ?_ ?_
    · intro b hb hno
      exact same b hb (.inl fun hx => let ⟨s, hs⟩ := k2.fromO b (by simp [hx]); hno s hs)
    · intro s hs b hb
      refine same b (k2.rel.lt hb) (.inl fun hx => ?_)
      rcases hb with hb | hb
      · exact k2.gone b (by simp [hx]) s hb
      · exact hcl.1 b (by simp [hx]) s hb
    · intro env' tmps' hl
      refine ⟨[v'], rfl, v', cells ++ news, O2' ++ O4', rfl, ?_, ?_, rfl, hfin⟩
      · rw [List.length_append]; exact hrow
      · rw [List.length_append]; exact Nat.le_trans hlen (by decide)
    · rw [List.nodup_append]
      refine ⟨by cases v'.ownBlock <;> simp, ?_, ?_⟩
      · rw [List.nodup_append]
        exact ⟨m2.nodup hnd1.2.1, n2.nodup (hs4.nodup hnd.2.1), fun a ha b hb e => d13 a (hO2 a (hO2' a ha)) (by rw [e]; exact hO4 b hb)⟩
      · intro a ha b hb e
        subst e
        have ha' : v'.ownBlock = some a := by simpa using ha
        rcases List.mem_append.1 hb with hb | hb
        · rcases hvb a ha' with ⟨hx, hy⟩ | hx
          · exact hy (hO2' a hb)
          · have := (sameAll a (.inl hb)).2; omega
        · rcases hvb a ha' with ⟨hx, hy⟩ | hx
          · exact d13 a hx (hO4 a hb)
          · have := (sameAll a (.inr (.inl hb))).2; omega
    · intro b hb
      simp only [List.mem_append, Option.mem_toList] at hb ⊢
      rcases hb with hb | hb | hb
      · rcases hvb b hb with hx | hx
        · exact .inl (.inl hx.1)
        · exact .inr hx
      · exact .inl (.inl (hO2 b (hO2' b hb)))
      · exact .inl (.inr (hO4 b hb))
    · intro b hb hb'
      simp only [List.mem_append, Option.mem_toList] at hb hb'
      rcases hb with hb | hb | hb
      · rcases hvb b hb with ⟨hx, hy⟩ | hx
        · rcases hb' with hb' | hb'
          · rcases hR2' b hb' with hz | hz
            · exact hy hz
            · exact r1 b (.inl hz) hx
          · rcases hR4' b hb' with hz | hz
            · exact d13 b hx hz
            · exact r1 b (.inr hz) hx
        · rcases hb' with hb' | hb'
          · have := (sameAll b (.inr (.inr (.inl hb')))).2; omega
          · have := (sameAll b (.inr (.inr (.inr hb')))).2; omega
      · rcases hb' with hb' | hb'
        · exact m4 b hb hb'
        · rcases hR4' b hb' with hz | hz
          · exact d13 b (hO2 b (hO2' b hb)) hz
          · exact r1 b (.inr hz) (hO2 b (hO2' b hb))
      · rcases hb' with hb' | hb'
        · rcases hR2' b hb' with hz | hz
          · exact d13 b (hO2 b hz) (hO4 b hb)
          · exact r3 b (.inl hz) (hO4 b hb)
        · exact n4 b hb hb'
    · intro b hb
      simp only [List.mem_append] at hb ⊢
      rcases hb with hb | hb
      · rcases hR2' b hb with hx | hx
        · exact .inr (.inl (.inl (hO2 b hx)))
        · exact .inl (.inl hx)
      · rcases hR4' b hb with hx | hx
        · exact .inr (.inl (.inr hx))
        · exact .inl (.inr hx)

end
end Go.Vm

/-
  The law ScriptJoins, walked: it returns true at every two texts, over the library's contracts.
-/
import Derived.Test.YtalhhkjdlnamdaaDoorWe
namespace Go.Proofs
open Go Go.SX
set_option maxRecDepth 100000
theorem LineRes.ok {R R' : RO} {o : Sc.Op} {sv : SV} {H' : List SObj} {l : Sc.Bs} (h : LineRes R o sv R' H') (hl : Sc.lineL o = some l) : ∃ t : ByteArray, sv = .tup (.cons 1 (.raw (.string t)) (.cons 1 (.raw .nilIface) .nil)) ∧ R' = R ∧ H' = [] ∧ t.data.toList = l := by
  obtain ⟨t, e, rfl, rfl, rfl, ⟨h1, rfl⟩ | ⟨h1, _⟩⟩ := h
  · rw [hl] at h1; cases h1; exact ⟨t, rfl, rfl, rfl, rfl⟩
  · rw [hl] at h1; cases h1
theorem parse_len {s : Sc.Bs} {ops : List Sc.Op} (hl : s.length ≤ 65535) (h : Sc.parseL s = some ops) : ops.length ≤ s.length := by
  obtain ⟨ls, h1, h2⟩ := Sc.parse_lines hl h
  rw [← Sc.all_len h1, h2]
  clear h1 h2
  induction ls with
  | nil => simp
  | cons x r ih => rw [show Sc.flatN (x :: r) = (x ++ [10]) ++ Sc.flatN r from by simp [Sc.flatN]]; simp only [List.length_append, List.length_cons, List.length_nil] at ih ⊢; omega
/-- a slice with elements -/
theorem ROSl.some {R : RO} {q : Option Addr} {n c wd : Nat} {es : List Value} (h : ROSl R (.slice q n c) es wd) (hn : n ≠ 0) : ∃ k o, q = Option.some ⟨k, o, none⟩ := by
  obtain ⟨q', n', c', h1, h2, _⟩ := ROSl.shapeV h
  cases h1
  obtain ⟨k, o, cap, h3, _⟩ := h.shapeN (by intro e; rw [e] at h2; exact hn h2)
  cases h3
  exact ⟨k, o, rfl⟩
/-- Parse's end, taken apart -/
theorem ParseRes.shape {R R' : RO} {l : Sc.Bs} {sv : SV} {H' : List SObj} (hgl : Gl R) (h : ParseRes R l sv R' H') : ∃ q n c e es, sv = .tup (.cons 1 (.raw (.slice q n c)) (.cons 1 (.raw e) .nil)) ∧ H' = [] ∧ SubRO R R' ∧ ROSl R' (.slice q n c) es 6 ∧ n = es.length ∧
    ((∃ a b, e = .iface a b ∧ (65535 < l.length ∨ Sc.parseL l = none)) ∨ (l.length ≤ 65535 ∧ ∃ ops, Sc.parseL l = some ops ∧ e = .nilIface ∧ OpsV R' ops es)) := by
  obtain ⟨v, e, es, rfl, rfl, hs, hr, hp⟩ := h
  obtain ⟨q, n, c, rfl, hn, _⟩ := ROSl.shapeV hr
  refine ⟨q, n, c, e, es, rfl, rfl, hs, hr, hn, ?_⟩
  obtain ⟨arr0, et0, f0, arr1, et1, f1, t0, p0, t1, p1, hg0, hv0, hg1, hv1⟩ := hgl.err
  rcases hp with ⟨h1, _, h2⟩ | ⟨_, h1, _, h2⟩ | ⟨h0, ops, h1, h2, h3⟩
  · exact .inl ⟨t0, p0, by rw [h2]; simp only [glV, hg0, Array.getD_eq_getD_getElem?, hv0]; rfl, .inl h1⟩
  · exact .inl ⟨t1, p1, by rw [h2]; simp only [glV, hg1, Array.getD_eq_getD_getElem?, hv1]; rfl, .inr h1⟩
  · exact .inr ⟨h0, ops, h1, h2, h3⟩
set_option maxHeartbeats 8000000 in
theorem f3 (kit : Kit Tryd.prog) (a b : ByteArray) (R : RO) (hgl : Gl R) : CallW Tryd.prog 3 [.raw (.string a), .raw (.string b)] R [] (BoolRes R true) := by
  have e7' := e7
  have e8' := e8
  have e9' := e9
  have h7 := f7 kit
  have h8 := f8 kit
  have h9 := f9 kit
  refine CallW.shrink (vcF_ok Tryd.func3 c3 ?_)
  generalize hK : (fun (sv : SV) (_ : RO) (H' : List SObj) => BoolRes R true sv R H') = K
  revert e7' e8' e9' h7 h8 h9
  clear kit
  generalize Tryd.prog = P
  intro e7' e8' e9' h7 h8 h9
  have good : ∀ Rx, K (.raw (.bool true)) Rx [] := fun Rx => by rw [← hK]; exact ⟨rfl, rfl, rfl⟩
  cbv
  refine CallAt.use [] [] [] e7' (h7 R hgl) rfl rfl rfl rfl ?_
  intro sv R1 H1 hres
  obtain ⟨rfl, rfl, rfl⟩ := hres
  cbv
  refine ⟨fun c1 hc1 => ?_⟩
  have hc1' : c1 = a.data.toList.length := by rw [hc1, bsize]; rfl
  cbv
  refine ⟨fun b1 h1 => ?_⟩
  cases b1
  · have hal : ¬ 1000 < c1 := fun h => by cases h1.2 h
    cbv
    refine ⟨fun c2 hc2 => ?_⟩
    have hc2' : c2 = b.data.toList.length := by rw [hc2, bsize]; rfl
    cbv
    refine ⟨fun b2 h2 => ?_⟩
    cases b2
    · have hbl : ¬ 1000 < c2 := fun h => by cases h2.2 h
      have hal' : a.data.toList.length ≤ 1000 := by ((try simp only [nc] at *); omega)
      have hbl' : b.data.toList.length ≤ 1000 := by ((try simp only [nc] at *); omega)
      cbv
      refine CallAt.use [] [] [.raw (.string a)] e8' (h8 a R1 hgl) rfl rfl rfl rfl ?_
      intro sv R2 H2 hres
      apply W.out
      obtain ⟨qa, na, ca, ea, esa, rfl, rfl, hsa, hra, hna, hpa⟩ := hres.shape hgl
      refine ⟨?_⟩
      cbv
      have hgl2 := hgl.mono hsa
      refine CallAt.use [] [] [.raw (.string b)] e8' (h8 b R2 hgl2) rfl rfl rfl rfl ?_
      intro sv R3 H3 hres
      apply W.out
      obtain ⟨qb, nb, cb, eb, esb, rfl, rfl, hsb, hrb, hnb, hpb⟩ := hres.shape hgl2
      have hgl3 := hgl2.mono hsb
      have hra := hra.mono hsb
      rcases hpa with ⟨ta, pa, rfl, _⟩ | ⟨_, opa, hopa, rfl, hva⟩
      · refine ⟨?_⟩
        cbv
        exact good _
      · rcases hpb with ⟨tb, pb, rfl, _⟩ | ⟨_, opb, hopb, rfl, hvb⟩
        · refine ⟨?_⟩
          cbv
          exact good _
        · have hva := hva.mono hsb
          have hza : a.size = a.data.toList.length := bsize a
          have hzb : b.size = b.data.toList.length := bsize b
          refine ⟨?_⟩
          cbv
          refine ⟨by omega, ⟨fun ab hab => ?_⟩⟩
          have habl : ab.data.toList = a.data.toList ++ b.data.toList := by rw [hab]; simp
          have hpab : Sc.parseL ab.data.toList = some (opa ++ opb) := by rw [habl]; exact Sc.parse_app hopa hopb
          have hablen : ab.data.toList.length ≤ 2000 := by rw [habl, List.length_append]; omega
          have hfacts := parse_opI (by omega) hpab
          cbv
          refine CallAt.use [] [] [.raw (.string ab)] e8' (h8 ab R3 hgl3) rfl rfl rfl rfl ?_
          intro sv R4 H4 hres
          apply W.out
          obtain ⟨qz, nz, cz, ez, esz, rfl, rfl, hsz, hrz, hnz, hpz⟩ := hres.shape hgl3
          have hgl4 := hgl3.mono hsz
          have hra := hra.mono hsz
          have hrb := hrb.mono hsz
          have hva := hva.mono hsz
          have hvb := hvb.mono hsz
          obtain ⟨rfl, hvz⟩ : ez = .nilIface ∧ OpsV R4 (opa ++ opb) esz := by
            rcases hpz with ⟨_, _, _, h | h⟩ | ⟨_, ops, h, he, ho⟩
            · omega
            · rw [hpab] at h; cases h
            · rw [hpab] at h; cases h; exact ⟨he, ho⟩
          have hla : na = opa.length := by rw [hna, hva.len]
          have hlb : nb = opb.length := by rw [hnb, hvb.len]
          have hlz : nz = opa.length + opb.length := by rw [hnz, hvz.len, List.length_append]
          refine ⟨?_⟩
          cbv
          have hpl := parse_len (by omega) hpab
          rw [List.length_append] at hpl
          refine ⟨fun c3 hc3 => ?_⟩
          have hc3' : c3 = ((opa.length + opb.length : Nat) : Int) := by rw [hc3, hlz]; rfl
          cbv
          refine ⟨fun c4 hc4 => ?_⟩
          have hc4' : c4 = (opa.length : Int) := by rw [hc4, hla]; rfl
          cbv
          refine ⟨fun c5 hc5 => ?_⟩
          have hc5' : c5 = (opb.length : Int) := by rw [hc5, hlb]; rfl
          cbv
          refine ⟨fun c6 hc6 => ?_⟩
          rw [wrap_id (n := c4 + c5) (by ((try simp only [nc] at *); omega)) (by ((try simp only [nc] at *); omega))] at hc6
          cbv
          refine ⟨fun b3 h3 => ?_⟩
          have hb3 : b3 = false := by
            cases b3
            · rfl
            · exact absurd (by ((try simp only [nc] at *); omega)) (h3.1 rfl)
          subst hb3
          cbv
          refine ⟨fun c7 hc7 => ?_⟩
          have hc7' : c7 = ((opa.length + opb.length : Nat) : Int) := by rw [hc7, hlz]; rfl
          cbv
          refine loop_at (fun s (x : Nat) => { s with tm := s.tm.put 65 (.raw (.int .i64 x)) })
            (fun x => x ≤ opa.length + opb.length)
            (fun x => opa.length + opb.length - x) 0 [] (by cbv; repeat (first | exact trivial | refine ⟨.mk _, ?_⟩)) (by omega) ?_
          intro x hx K' hK'
          simp only at hx hK' ⊢
          obtain ⟨xi, hxi⟩ : ∃ xi : Int, xi = x := ⟨_, rfl⟩
          rw [← hxi]
          cbv
          refine ⟨fun b4 h4 => ?_⟩
          cases b4
          · have hge : ¬ xi < c7 := fun h => by cases h4.2 h
            cbv
            exact good _
          · have hlt : xi < c7 := h4.1 rfl
            have hxl : x < opa.length + opb.length := by ((try simp only [nc] at *); omega)
            obtain ⟨o, ho⟩ : ∃ o, (opa ++ opb)[x]? = some o := ⟨_, List.getElem?_eq_getElem (by rw [List.length_append]; exact hxl)⟩
            obtain ⟨hoi, l, hline⟩ := hfacts o (List.mem_of_getElem? ho)
            obtain ⟨vz, hvz1, hvz2⟩ := hvz.get ho
            obtain ⟨kz, oz, rfl⟩ := ROSl.some hrz (by omega)
            obtain ⟨k0, i0, n0, q1, n1, d1, q2, n2, d2, q3, n3, d3, rfl, ho0⟩ := hvz2.shape
            cbv
            refine ⟨by ((try simp only [nc] at *); omega), by ((try simp only [nc] at *); omega), fun j hj => ?_⟩
            have hjx : j = x := by ((try simp only [nc] at *); omega)
            refine .mk _ _ _ hrz (by rw [hjx]; exact hvz1) rfl ?_
            cbv
            refine ⟨⟨⟨_, rfl, rfl, by simp [scal]⟩, by decide⟩, ?_⟩
            cbv
            refine ⟨fun c8 hc8 => ?_⟩
            have hc8' : c8 = (opa.length : Int) := by rw [hc8, hla]; rfl
            cbv
            refine ⟨fun b5 h5 => ?_⟩
            have tail : True := trivial
            cases b5
            · have hxa : ¬ xi < c8 := fun h => by cases h5.2 h
              have hge : opa.length ≤ x := by ((try simp only [nc] at *); omega)
              rw [List.getElem?_append_right hge] at ho
              obtain ⟨vb, hvb1, hvb2⟩ := hvb.get ho
              obtain ⟨kb, ob, rfl⟩ := ROSl.some hrb (by omega)
              obtain ⟨k4, i4, n4, q5, n5, d5, q6, n6, d6, q7, n7, d7, rfl, ho4⟩ := hvb2.shape
              cbv
              refine ⟨fun c9 hc9 => ?_⟩
              have hc9' : c9 = (opa.length : Int) := by rw [hc9, hla]; rfl
              cbv
              refine ⟨fun c10 hc10 => ?_⟩
              rw [wrap_id (n := xi - c9) (by ((try simp only [nc] at *); omega)) (by ((try simp only [nc] at *); omega))] at hc10
              cbv
              refine ⟨by ((try simp only [nc] at *); omega), by ((try simp only [nc] at *); omega), fun j2 hj2 => ?_⟩
              have hjx2 : j2 = x - opa.length := by ((try simp only [nc] at *); omega)
              refine .mk _ _ _ hrb (by rw [hjx2]; exact hvb1) rfl ?_
              cbv
              refine ⟨⟨⟨_, rfl, rfl, by simp [scal]⟩, by decide⟩, ?_⟩
              cbv
              refine CallAt.use [] [] [.agg (opC k0 i0 n0 (.slice q1 n1 d1) (.slice q2 n2 d2) (.slice q3 n3 d3))] e9' (h9 o k0 i0 n0 _ _ _ R4 hgl4 ho0 hoi) rfl rfl rfl rfl ?_
              intro sv R5 H5 hres
              apply W.out
              obtain ⟨t1, rfl, rfl, rfl, ht1⟩ := hres.ok hline
              refine ⟨?_⟩
              cbv
              refine CallAt.use [] [] [.agg (opC k4 i4 n4 (.slice q5 n5 d5) (.slice q6 n6 d6) (.slice q7 n7 d7))] e9' (h9 o k4 i4 n4 _ _ _ R5 hgl4 ho4 hoi) rfl rfl rfl rfl ?_
              intro sv R6 H6 hres
              apply W.out
              obtain ⟨t2, rfl, rfl, rfl, ht2⟩ := hres.ok hline
              refine ⟨?_⟩
              cbv
              refine ⟨fun b6 h6 => ?_⟩
              have hb6 : b6 = false := by
                cases b6
                · rfl
                · exact absurd (bstr_eq.2 (ht1.trans ht2.symm)) (h6.1 rfl)
              subst hb6
              cbv
              refine ⟨fun c11 hc11 => ?_⟩
              rw [wrap_id (n := xi + 1) (by ((try simp only [nc] at *); omega)) (by ((try simp only [nc] at *); omega))] at hc11
              have hc11' : c11 = ((x + 1 : Nat) : Int) := by ((try simp only [nc] at *); omega)
              subst hc11'
              exact hK' _ (x + 1) [] (by cbv; repeat (first | exact trivial | refine ⟨.mk _, ?_⟩)) (by ((try simp only [nc] at *); omega)) (by ((try simp only [nc] at *); omega))
            · have hxa : xi < c8 := h5.1 rfl
              have hlta : x < opa.length := by ((try simp only [nc] at *); omega)
              rw [List.getElem?_append_left hlta] at ho
              obtain ⟨vb, hvb1, hvb2⟩ := hva.get ho
              obtain ⟨kb, ob, rfl⟩ := ROSl.some hra (by omega)
              obtain ⟨k4, i4, n4, q5, n5, d5, q6, n6, d6, q7, n7, d7, rfl, ho4⟩ := hvb2.shape
              cbv
              refine ⟨by ((try simp only [nc] at *); omega), by ((try simp only [nc] at *); omega), fun j2 hj2 => ?_⟩
              have hjx2 : j2 = x := by ((try simp only [nc] at *); omega)
              refine .mk _ _ _ hra (by rw [hjx2]; exact hvb1) rfl ?_
              cbv
              refine ⟨⟨⟨_, rfl, rfl, by simp [scal]⟩, by decide⟩, ?_⟩
              cbv
              refine CallAt.use [] [] [.agg (opC k0 i0 n0 (.slice q1 n1 d1) (.slice q2 n2 d2) (.slice q3 n3 d3))] e9' (h9 o k0 i0 n0 _ _ _ R4 hgl4 ho0 hoi) rfl rfl rfl rfl ?_
              intro sv R5 H5 hres
              apply W.out
              obtain ⟨t1, rfl, rfl, rfl, ht1⟩ := hres.ok hline
              refine ⟨?_⟩
              cbv
              refine CallAt.use [] [] [.agg (opC k4 i4 n4 (.slice q5 n5 d5) (.slice q6 n6 d6) (.slice q7 n7 d7))] e9' (h9 o k4 i4 n4 _ _ _ R5 hgl4 ho4 hoi) rfl rfl rfl rfl ?_
              intro sv R6 H6 hres
              apply W.out
              obtain ⟨t2, rfl, rfl, rfl, ht2⟩ := hres.ok hline
              refine ⟨?_⟩
              cbv
              refine ⟨fun b6 h6 => ?_⟩
              have hb6 : b6 = false := by
                cases b6
                · rfl
                · exact absurd (bstr_eq.2 (ht1.trans ht2.symm)) (h6.1 rfl)
              subst hb6
              cbv
              refine ⟨fun c11 hc11 => ?_⟩
              rw [wrap_id (n := xi + 1) (by ((try simp only [nc] at *); omega)) (by ((try simp only [nc] at *); omega))] at hc11
              have hc11' : c11 = ((x + 1 : Nat) : Int) := by ((try simp only [nc] at *); omega)
              subst hc11'
              exact hK' _ (x + 1) [] (by cbv; repeat (first | exact trivial | refine ⟨.mk _, ?_⟩)) (by ((try simp only [nc] at *); omega)) (by ((try simp only [nc] at *); omega))
    · cbv
      exact good _
  · cbv
    exact good _
end Go.Proofs

/-
  The law ScriptAgain, walked: it returns true at every text, over the library's contracts.
-/
import Derived.Test.YtalhhkjdlnamdaaDoorWg
namespace Go.Proofs
open Go Go.SX
set_option maxRecDepth 100000
set_option maxHeartbeats 8000000 in
theorem f4 (kit : Kit Tryd.prog) (a : ByteArray) (R : RO) (hgl : Gl R) : CallW Tryd.prog 4 [.raw (.string a)] R [] (BoolRes R true) := by
  have e7' := e7
  have e8' := e8
  have e10' := e10
  have h7 := f7 kit
  have h8 := f8 kit
  have h10 := f10 kit
  refine CallW.shrink (vcF_ok Tryd.func4 c4 ?_)
  generalize hK : (fun (sv : SV) (_ : RO) (H' : List SObj) => BoolRes R true sv R H') = K
  revert e7' e8' e10' h7 h8 h10
  clear kit
  generalize Tryd.prog = P
  intro e7' e8' e10' h7 h8 h10
  have good : ∀ Rx, K (.raw (.bool true)) Rx [] := fun Rx => by rw [← hK]; exact ⟨rfl, rfl, rfl⟩
  cbv
  refine CallAt.use [] [] [] e7' (h7 R hgl) rfl rfl rfl rfl ?_
  intro sv R1 H1 hres
  obtain ⟨rfl, rfl, rfl⟩ := hres
  cbv
  refine ⟨fun c1 hc1 => ?_⟩
  have hc1' : c1 = a.data.toList.length := by rw [hc1, bsize]; rfl
  cbv
  refine ⟨fun b1 h1 => ?_⟩
  cases b1
  · have hal : ¬ 2000 < c1 := fun h => by cases h1.2 h
    have hal' : a.data.toList.length ≤ 2000 := by ((try simp only [nc] at *); omega)
    cbv
    refine CallAt.use [] [] [.raw (.string a)] e8' (h8 a R1 hgl) rfl rfl rfl rfl ?_
    intro sv R2 H2 hres
    apply W.out
    obtain ⟨v, e, es, rfl, rfl, hs, hr, hp⟩ := hres
    obtain ⟨q, n, c, rfl, hn, _⟩ := ROSl.shapeV hr
    obtain ⟨arr0, et0, f0, arr1, et1, f1, t0, p0, t1, p1, hg0, hv0, hg1, hv1⟩ := id hgl.err
    have hgv1 : glV R1 1 = .iface t1 p1 := by simp only [glV, hg1, Array.getD_eq_getD_getElem?, hv1]; rfl
    rcases hp with ⟨h, _⟩ | ⟨_, hpa, rfl, rfl⟩ | ⟨_, ops, hpa, rfl, hops⟩
    · omega
    · have hn0 : n = 0 := hn
      subst hn0
      rw [hgv1]
      refine ⟨?_⟩
      cbv
      refine ⟨fun c2 hc2 => ?_⟩
      have hc2' : c2 = 0 := hc2
      subst hc2'
      cbv
      refine ⟨fun b2 h2 => ?_⟩
      have hb2 : b2 = true := h2.2 rfl
      subst hb2
      cbv
      exact good _
    · have hgl2 := hgl.mono hs
      have hfacts := parse_opI (by omega) hpa
      have hpl := parse_len (by omega) hpa
      refine ⟨?_⟩
      cbv
      refine CallAt.use [] [] [.raw (.slice q n c)] e10' (h10 ops (.slice q n c) es R2 hgl2 hr hops (fun o ho => (hfacts o ho).1) (by omega)) rfl rfl rfl rfl ?_
      intro sv R3 H3 hres
      apply W.out
      have htp := Sc.text_parse (by omega) hpa
      obtain ⟨t, e, rfl, rfl, rfl, ⟨htx, rfl⟩ | ⟨htx, _⟩ | ⟨htx, _⟩⟩ := hres
      rotate_left
      · rw [htp] at htx; cases htx
      · rw [htp] at htx; cases htx
      rw [htp] at htx
      have hta : a.data.toList = t.data.toList := by injection htx
      refine ⟨?_⟩
      cbv
      refine ⟨fun b3 h3 => ?_⟩
      have hb3 : b3 = true := h3.2 (bstr_eq.2 hta.symm)
      subst hb3
      cbv
      exact good _
  · cbv
    exact good _
end Go.Proofs

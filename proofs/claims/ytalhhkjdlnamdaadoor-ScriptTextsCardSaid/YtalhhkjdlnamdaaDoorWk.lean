/-
  The law ScriptTexts, walked: it returns true at every list of ops, over the library's contracts.
-/
import Derived.Test.YtalhhkjdlnamdaaDoorWj
namespace Go.Proofs
open Go Go.SX
set_option maxRecDepth 100000
/-- an op that the law goes on with -/
structure OkOp (o : Sc.Op) : Prop where
  i : OpI o
  d : o.data.length ≤ 200
theorem flat_le : ∀ {l : List Sc.Op} {ls : List Sc.Bs}, Sc.allL Sc.lineL l = some ls → (∀ o ∈ l, o.data.length ≤ 200) → (Sc.flatN ls).length ≤ 1403 * l.length
  | [], ls, h, _ => by simp [Sc.allL] at h; subst h; simp [Sc.flatN]
  | o :: r, ls, h, hd => by
    simp only [Sc.allL, Option.bind_eq_some_iff, Option.map_eq_some_iff] at h
    obtain ⟨y, h1, z, h2, h3⟩ := h
    subst h3
    have ih := flat_le h2 fun o ho => hd o (List.mem_cons_of_mem _ ho)
    have h4 := (Sc.op_line h1).2.2
    have h5 := hd o (List.mem_cons_self ..)
    rw [show Sc.flatN (y :: z) = (y ++ [10]) ++ Sc.flatN z from by simp [Sc.flatN]]
    simp only [List.length_append, List.length_cons, List.length_nil]
    omega
theorem opI_plain {o : Sc.Op} (h : OpI o) : OpI (Sc.plain o) := by
  have z : I64 0 := ⟨by omega, by omega⟩
  unfold Sc.plain
  (repeat' split) <;> refine ⟨?_, ?_, ?_, ?_, ?_, ?_, ?_⟩ <;> first
    | exact h.k | exact h.i | exact h.n | exact h.s | exact h.ls | exact h.lb | exact h.ld | exact z | simp [Sc.zop]
set_option maxHeartbeats 16000000 in
theorem f5 (kit : Kit Tryd.prog) (l : List Sc.Op) (v : Value) (es : List Value) (R : RO) (ad : Nat → Addr) (hgl : Gl R) (hA : GlA R ad) (hr : ROSl R v es 6) (hv : OpsV R l es)
    (hI : ∀ o ∈ l, I64 o.kind ∧ I64 o.node ∧ I64 o.n ∧ ∀ x ∈ o.set, I64 x) :
    CallW Tryd.prog 5 [.raw v] R [] (BoolRes R true) := by
  have e7' := e7
  have e8' := e8
  have e9' := e9
  have e10' := e10
  have e11' := e11
  have e12' := e12
  have e13' := e13
  have e14' := e14
  have h7 := f7 kit
  have h8 := f8 kit
  have h9 := f9 kit
  have h10 := f10 kit
  have h11 := f11
  have h12 := f12
  have h13 := f13
  have h14 := f14
  refine CallW.shrink (vcF_ok Tryd.func5 c5 ?_)
  generalize hK : (fun (sv : SV) (_ : RO) (H' : List SObj) => BoolRes R true sv R H') = K
  revert e7' e8' e9' e10' e11' e12' e13' e14' h7 h8 h9 h10 h11 h12 h13 h14
  clear kit
  generalize Tryd.prog = P
  intro e7' e8' e9' e10' e11' e12' e13' e14' h7 h8 h9 h10 h11 h12 h13 h14
  have good : ∀ Rx, K (.raw (.bool true)) Rx [] := fun Rx => by rw [← hK]; exact ⟨rfl, rfl, rfl⟩
  obtain ⟨q, n, cap, rfl, hn, hcap⟩ := ROSl.shapeV hr
  have hnl : n = l.length := by rw [hn, hv.len]
  cbv
  refine CallAt.use [] [] [] e7' (h7 R hgl) rfl rfl rfl rfl ?_
  intro sv R1 H1 hres
  obtain ⟨rfl, hR1, rfl⟩ := hres
  obtain rfl := hR1.symm
  cbv
  refine ⟨fun c1 hc1 => ?_⟩
  have hc1' : c1 = l.length := by rw [hc1, hnl]; rfl
  cbv
  refine ⟨fun b1 t1 => ?_⟩
  cases b1
  rotate_left
  · cbv
    exact good _
  have hl30 : ¬ 30 < c1 := fun h => by cases t1.2 h
  have hl30' : l.length ≤ 30 := by ((try simp only [nc] at *); omega)
  cbv
  refine ⟨fun c2 hc2 => ?_⟩
  have hc2' : c2 = l.length := by rw [hc2, hnl]; rfl
  cbv
  refine loop_at (fun s (x : Nat × Bool × List Value × Nat × Nat × RO) => { s with ro := x.2.2.2.2.2, tm := ((s.tm.put 24 (.raw (.int .i64 x.1))).put 4 (.raw (.bool x.2.1))).put 3 (.sl 0 0 0 6 x.2.2.2.1 x.2.2.2.2.1), heap := [.buf x.2.2.1 6 40] })
    (fun x => SubRO R x.2.2.2.2.2 ∧ x.1 ≤ l.length ∧ OpsV x.2.2.2.2.2 ((l.take x.1).map Sc.plain) x.2.2.1 ∧ x.2.2.2.1 = x.2.2.1.length ∧ x.2.2.2.1 ≤ x.2.2.2.2.1 ∧ (x.2.1 = true ↔ ∀ o ∈ l.take x.1, Sc.rightP (Sc.plain o)) ∧ ∀ o ∈ l.take x.1, OkOp o)
    (fun x => l.length - x.1) (0, true, [], 0, 0, R) [some 0] (by cbv; repeat (first | exact trivial | refine ⟨.mk _, ?_⟩)) ⟨.refl _, by omega, .nil, rfl, Nat.le_refl _, by simp, by simp⟩ ?_
  rintro ⟨x, rt, es2, n2, m2, R1⟩ ⟨hs1, hx, hops, hn2, hm2, hrt, hok⟩ K' hK'
  simp only at hs1 hx hops hn2 hm2 hrt hok hK' ⊢
  have hgl1 := hgl.mono hs1
  have hA1 := hA.mono hs1
  have hr1 := hr.mono hs1
  have hv1 := hv.mono hs1
  clear hr hv
  have hl2 : n2 = x := by rw [hn2, hops.len, List.length_map, List.length_take]; omega
  obtain ⟨xi, hxi⟩ : ∃ xi : Int, xi = x := ⟨_, rfl⟩
  rw [← hxi]
  cbv
  refine ⟨fun b2 t2 => ?_⟩
  cases b2
  · have hge : ¬ xi < c2 := fun h => by cases t2.2 h
    have hxe : x = l.length := by ((try simp only [nc] at *); omega)
    rw [hxe, List.take_length] at hops hrt hok
    have hoiA : ∀ o ∈ l, OpI o := fun o ho => (hok o ho).i
    cbv
    refine CallAt.use [] [] [.raw (.slice q n cap)] e10' (h10 l _ es R1 hgl1 hr1 hv1 hoiA (by omega)) rfl rfl rfl rfl ?_
    intro sv R5 H5 hres
    apply W.out
    obtain ⟨t, e, rfl, hR5, rfl, htx⟩ := hres
    obtain rfl := hR5.symm
    cases rt
    · have hbad : Sc.allL Sc.lineL l = none := by
        cases hal : Sc.allL Sc.lineL l with
        | none => rfl
        | some ls =>
          have h1 := Sc.all_some.1 (show (Sc.allL Sc.lineL l).isSome = true by rw [hal]; rfl)
          have := hrt.2 fun o ho => (Sc.line_some (by have := (hok o ho).d; omega)).1 (h1 o ho)
          cases this
      have htl : Sc.textL l = .error 1 := Sc.text_bad [] false hbad
      obtain ⟨ht0, rfl⟩ : t.data.toList = [] ∧ e = .iface 145 (.pointer (some (ad 1))) := by
        rcases htx with ⟨h, _⟩ | ⟨_, h, g, _⟩ | ⟨h, _⟩
        · rw [htl] at h; cases h
        · exact ⟨h, g.trans (hA1.glV (by decide))⟩
        · rw [htl] at h; cases h
      clear htx
      refine ⟨?_⟩
      cbv
      refine ⟨fun b6 t6 => ?_⟩
      have hb6 : b6 = true := t6.2 (bstr_eq.2 ht0)
      subst hb6
      cbv
      refine CallAt.use [] [] [.raw (.iface 145 (.pointer (some (ad 1))))] e13' (h13 R1 ad hA1 1 (Or.inr rfl)) rfl rfl rfl rfl ?_
      intro sv R8 H8 hres
      obtain ⟨rfl, hR8, rfl⟩ := hres
      obtain rfl := hR8.symm
      cbv
      refine ⟨fun b7 t7 => ?_⟩
      have hb7 : b7 = true := t7.2 rfl
      subst hb7
      cbv
      exact good _
    · obtain ⟨ls, hls⟩ : ∃ ls, Sc.allL Sc.lineL l = some ls := by
        have := Sc.all_some.2 fun o ho => (Sc.line_some (o := o) (by have := (hok o ho).d; omega)).2 (hrt.1 rfl o ho)
        exact Option.isSome_iff_exists.1 this
      have hfl := flat_le hls fun o ho => (hok o ho).d
      have hfl' : (Sc.flatN ls).length ≤ 65535 := by omega
      have htl : Sc.textL l = .ok (Sc.flatN ls) := by
        have := Sc.text_ok [] hls (by rw [List.nil_append]; exact hfl')
        rwa [List.nil_append] at this
      obtain ⟨ht0, rfl⟩ : t.data.toList = Sc.flatN ls ∧ e = .nilIface := by
        rcases htx with ⟨h, g⟩ | ⟨h, _⟩ | ⟨h, _⟩
        · rw [htl] at h; injection h with h; exact ⟨h.symm, g⟩
        · rw [htl] at h; cases h
        · rw [htl] at h; cases h
      clear htx
      have hpa : Sc.parseL t.data.toList = some (l.map Sc.plain) := by rw [ht0]; exact Sc.parse_flat hls
      have htn : t.data.toList.length ≤ 65535 := by rw [ht0]; exact hfl'
      refine ⟨?_⟩
      cbv
      refine CallAt.use [] [] [.raw (.string t)] e8' (h8 t R1 hgl1) rfl rfl rfl rfl ?_
      intro sv R8 H8 hres
      apply W.out
      obtain ⟨q8, n8, c8, e8, es8, rfl, rfl, hs8, hr8, hn8, hp8⟩ := hres.shape hgl1
      obtain ⟨rfl, hv8⟩ : e8 = .nilIface ∧ OpsV R8 (l.map Sc.plain) es8 := by
        rcases hp8 with ⟨_, _, _, h | h⟩ | ⟨_, ops, h, he, ho⟩
        · omega
        · rw [hpa] at h; cases h
        · rw [hpa] at h; cases h; exact ⟨he, ho⟩
      clear hp8
      have hop : ∀ o ∈ l.map Sc.plain, OpI o := by
        intro o ho
        obtain ⟨o', h1, rfl⟩ := List.mem_map.1 ho
        exact opI_plain (hoiA o' h1)
      have hv9 : OpsV R8 (l.map Sc.plain) ((es2.drop 0).take n2) := by
        rw [List.drop_zero, hn2, List.take_length]; exact hops.mono hs8
      refine ⟨?_⟩
      cbv
      refine CallAt.use [0] [.buf es2 6 40] [.raw (.slice q8 n8 c8), .sl 0 0 0 6 n2 m2] e14' (h14 (l.map Sc.plain) (l.map Sc.plain) _ es8 es2 0 n2 m2 R8 hr8 hv8 hv9 (by rw [hn2, hops.len]) hop hop (by rw [List.length_map]; omega) (by rw [List.length_map]; omega)) rfl rfl rfl rfl ?_
      intro sv R9 H9 hres
      obtain ⟨b8, rfl, hR9, rfl, t8⟩ := hres
      obtain rfl := hR9.symm
      have hb8 : b8 = true := t8.2 rfl
      subst hb8
      cbv
      exact good _
  · have hlt : xi < c2 := t2.1 rfl
    have hxl : x < l.length := by ((try simp only [nc] at *); omega)
    obtain ⟨o, ho⟩ : ∃ o, l[x]? = some o := ⟨_, List.getElem?_eq_getElem hxl⟩
    obtain ⟨w, hw, hov⟩ := hv1.get ho
    obtain ⟨k0, i0, n0, q1, m1, d1, q2, m3, d2, q3, m4, d3, rfl, ho0⟩ := hov.shape
    obtain ⟨hI1, hI2, hI3, hI4⟩ := hI o (List.mem_of_getElem? ho)
    obtain ⟨kr, or, rfl⟩ := ROSl.some hr1 (by omega)
    obtain ⟨_, _, _, eq1, hm1, _⟩ := ROSl.shapeV ho0.s
    obtain ⟨_, _, _, eq2, hm3, _⟩ := ROSl.shapeV ho0.b
    obtain ⟨_, _, _, eq3, hm4, _⟩ := ROSl.shapeV ho0.d
    cases eq1; cases eq2; cases eq3
    have hz1 : m1 = o.set.length := by rw [hm1]; simp [intV]
    have hz3 : m3 = o.keep.length := by rw [hm3]; simp [boolV]
    have hz4 : m4 = o.data.length := by rw [hm4]; simp [byV]
    cbv
    refine ⟨by ((try simp only [nc] at *); omega), by ((try simp only [nc] at *); omega), fun j hj => ?_⟩
    have hjx : j = x := by ((try simp only [nc] at *); omega)
    subst hjx
    refine .mk _ _ _ hr1 hw rfl ?_
    cbv
    refine ⟨⟨⟨_, rfl, rfl, by simp [scal]⟩, by decide⟩, ?_⟩
    cbv
    refine ⟨fun c3 hc3 => ?_⟩
    have hc3' : c3 = o.data.length := by rw [hc3, hz4]; rfl
    cbv
    refine ⟨fun b3 t3 => ?_⟩
    cases b3
    rotate_left
    · cbv
      exact good _
    have hd : ¬ 200 < c3 := fun h => by cases t3.2 h
    cbv
    refine ⟨fun c4 hc4 => ?_⟩
    have hc4' : c4 = o.set.length := by rw [hc4, hz1]; rfl
    cbv
    refine ⟨fun b4 t4 => ?_⟩
    cases b4
    rotate_left
    · cbv
      exact good _
    have hs : ¬ 50 < c4 := fun h => by cases t4.2 h
    cbv
    refine ⟨fun c5 hc5 => ?_⟩
    have hc5' : c5 = o.keep.length := by rw [hc5, hz3]; rfl
    cbv
    refine ⟨fun b5 t5 => ?_⟩
    cases b5
    rotate_left
    · cbv
      exact good _
    have hkp : ¬ 200 < c5 := fun h => by cases t5.2 h
    have hd' : o.data.length ≤ 200 := by ((try simp only [nc] at *); omega)
    have hoi : OpI o := ⟨hI1, hI2, hI3, hI4, by ((try simp only [nc] at *); omega), by ((try simp only [nc] at *); omega), by omega⟩
    have hok2 : ∀ y ∈ l.take (j + 1), OkOp y := by
      intro y hy
      rw [List.take_add_one, ho] at hy
      rcases List.mem_append.1 hy with h | h
      · exact hok y h
      · simp at h; subst h; exact ⟨hoi, hd'⟩
    cbv
    refine CallAt.use [] [] [.agg (opC k0 i0 n0 (.slice q1 m1 d1) (.slice q2 m3 d2) (.slice q3 m4 d3))] e11' (h11 o k0 i0 n0 _ _ _ R1 ho0 hoi) rfl rfl rfl rfl ?_
    intro sv R5 H5 hres
    obtain ⟨b, rfl, hR5, rfl, hb⟩ := hres
    obtain rfl := hR5.symm
    have hls := Sc.line_some (o := o) (by omega)
    have hrt2 : ((rt && b) = true ↔ ∀ y ∈ l.take (j + 1), Sc.rightP (Sc.plain y)) := by
      rw [List.take_add_one, ho, Bool.and_eq_true, hrt, hb]
      simp only [Option.toList_some, List.mem_append, List.mem_singleton]
      constructor
      · rintro ⟨g1, g2⟩ y (g | g)
        · exact g1 y g
        · rw [g]; exact g2
      · intro g
        exact ⟨fun y hy => g y (.inl hy), g o (.inr rfl)⟩
    cbv
    cases rt
    · cases b
      · cbv
        refine CallAt.use [] [] [.agg (opC k0 i0 n0 (.slice q1 m1 d1) (.slice q2 m3 d2) (.slice q3 m4 d3))] e12' (h12 o k0 i0 n0 _ _ _ R1 ho0) rfl rfl rfl rfl ?_
        intro sv R6 H6 hres
        apply W.out
        obtain ⟨k1, i1, n1, vs1, vk1, vd1, rfl, hR6, rfl, hp⟩ := hres
        obtain rfl := hR6.symm
        obtain ⟨q4, m5, e4, rfl, _, _⟩ := ROSl.shapeV hp.s
        obtain ⟨q5, m6, e5, rfl, _, _⟩ := ROSl.shapeV hp.b
        obtain ⟨q6, m7, e6, rfl, _, _⟩ := ROSl.shapeV hp.d
        refine ⟨?_⟩
        cbv
        refine ⟨_, rfl, rfl, ?_⟩
        cbv
        refine ⟨hn2, ?_⟩
        refine ⟨by simp; ((try simp only [nc] at *); omega), fun es3 n3 m3' he hn3 hm3' => ?_⟩
        have hops3 : OpsV R1 ((l.take (j + 1)).map Sc.plain) es3 := by
          rw [he, List.take_add_one, ho, List.map_append]
          exact hops.snoc ⟨k1, i1, n1, .slice q4 m5 e4, .slice q5 m6 e5, .slice q6 m7 e6, rfl, hp⟩
        have hn3' : n3 = j + 1 := by rw [hn3, hops3.len, List.length_map, List.length_take]; omega
        cbv
        refine CallAt.use [] [] [.agg (opC k0 i0 n0 (.slice q1 m1 d1) (.slice q2 m3 d2) (.slice q3 m4 d3))] e9' (h9 o k0 i0 n0 _ _ _ R1 hgl1 ho0 hoi) rfl rfl rfl rfl ?_
        intro sv R7 H7 hres
        apply W.out
        obtain ⟨t, e, rfl, hR7, rfl, hline⟩ := hres
        obtain rfl := hR7.symm
        obtain ⟨ht0, rfl⟩ : t.data.toList = [] ∧ e = .iface 145 (.pointer (some (ad 1))) := by
          rcases hline with ⟨h, _⟩ | ⟨_, h, g, _⟩
          · have := hb.2 (hls.1 (by rw [h]; rfl))
            cases this
          · exact ⟨h, g.trans (hA1.glV (by decide))⟩
        clear hline
        refine ⟨?_⟩
        cbv
        refine ⟨fun b5 t5' => ?_⟩
        have hb5 : b5 = false := by
          cases b5
          · rfl
          · exact absurd rfl (t5'.1 rfl)
        subst hb5
        cbv
        refine ⟨fun b6 t6 => ?_⟩
        have hb6 : b6 = false := by
          cases b6
          · rfl
          · exact absurd (bstr_eq.2 ht0) (t6.1 rfl)
        subst hb6
        cbv
        refine CallAt.use [] [] [.raw (.iface 145 (.pointer (some (ad 1))))] e13' (h13 R1 ad hA1 1 (Or.inr rfl)) rfl rfl rfl rfl ?_
        intro sv R8 H8 hres
        obtain ⟨rfl, hR8, rfl⟩ := hres
        obtain rfl := hR8.symm
        cbv
        refine ⟨fun b7 t7 => ?_⟩
        have hb7 : b7 = false := by
          cases b7
          · rfl
          · exact absurd rfl (t7.1 rfl)
        subst hb7
        cbv
        refine ⟨fun d9 hd9 => ?_⟩
        rw [wrap_id (n := xi + 1) (by ((try simp only [nc] at *); omega)) (by ((try simp only [nc] at *); omega))] at hd9
        have hd9' : d9 = ((j + 1 : Nat) : Int) := by ((try simp only [nc] at *); omega)
        subst hd9'
        refine hK' _ (j + 1, false, es3, n3, m3', R1) [some 3] (by cbv; repeat (first | exact trivial | refine ⟨.mk _, ?_⟩)) ⟨hs1, by ((try simp only [nc] at *); omega), hops3, hn3, hm3', hrt2, hok2⟩ (by ((try simp only [nc] at *); omega))
      · cbv
        refine CallAt.use [] [] [.agg (opC k0 i0 n0 (.slice q1 m1 d1) (.slice q2 m3 d2) (.slice q3 m4 d3))] e12' (h12 o k0 i0 n0 _ _ _ R1 ho0) rfl rfl rfl rfl ?_
        intro sv R6 H6 hres
        apply W.out
        obtain ⟨k1, i1, n1, vs1, vk1, vd1, rfl, hR6, rfl, hp⟩ := hres
        obtain rfl := hR6.symm
        obtain ⟨q4, m5, e4, rfl, _, _⟩ := ROSl.shapeV hp.s
        obtain ⟨q5, m6, e5, rfl, _, _⟩ := ROSl.shapeV hp.b
        obtain ⟨q6, m7, e6, rfl, _, _⟩ := ROSl.shapeV hp.d
        refine ⟨?_⟩
        cbv
        refine ⟨_, rfl, rfl, ?_⟩
        cbv
        refine ⟨hn2, ?_⟩
        refine ⟨by simp; ((try simp only [nc] at *); omega), fun es3 n3 m3' he hn3 hm3' => ?_⟩
        have hops3 : OpsV R1 ((l.take (j + 1)).map Sc.plain) es3 := by
          rw [he, List.take_add_one, ho, List.map_append]
          exact hops.snoc ⟨k1, i1, n1, .slice q4 m5 e4, .slice q5 m6 e5, .slice q6 m7 e6, rfl, hp⟩
        have hn3' : n3 = j + 1 := by rw [hn3, hops3.len, List.length_map, List.length_take]; omega
        cbv
        refine CallAt.use [] [] [.agg (opC k0 i0 n0 (.slice q1 m1 d1) (.slice q2 m3 d2) (.slice q3 m4 d3))] e9' (h9 o k0 i0 n0 _ _ _ R1 hgl1 ho0 hoi) rfl rfl rfl rfl ?_
        intro sv R7 H7 hres
        apply W.out
        obtain ⟨t, e, rfl, hR7, rfl, hline⟩ := hres
        obtain rfl := hR7.symm
        obtain ⟨hlo, rfl⟩ : Sc.lineL o = some t.data.toList ∧ e = .nilIface := by
          rcases hline with h | ⟨h, _⟩
          · exact h
          · have := hls.2 (hb.1 rfl)
            rw [h] at this; cases this
        clear hline
        have hol := (Sc.op_line hlo).2.2
        have htz := bsize t
        have h10z : (⟨⟨[10]⟩⟩ : ByteArray).size = 1 := rfl
        refine ⟨?_⟩
        cbv
        refine ⟨fun b5 t5' => ?_⟩
        have hb5 : b5 = false := by
          cases b5
          · rfl
          · exact absurd rfl (t5'.1 rfl)
        subst hb5
        cbv
        refine ⟨by rw [h10z]; omega, ⟨fun t2 ht2 => ?_⟩⟩
        have ht2l : t2.data.toList = t.data.toList ++ [10] := by rw [ht2]; simp
        have ht2n : t2.data.toList.length = t.data.toList.length + 1 := by rw [ht2l, List.length_append]; rfl
        have hpa : Sc.parseL t2.data.toList = some [Sc.plain o] := by
          have h := Sc.parse_flat (ops := [o]) (ls := [t.data.toList]) (by simp [Sc.allL, hlo])
          rw [ht2l]
          simpa [Sc.flatN] using h
        cbv
        refine CallAt.use [] [] [.raw (.string t2)] e8' (h8 t2 R1 hgl1) rfl rfl rfl rfl ?_
        intro sv R8 H8 hres
        apply W.out
        obtain ⟨q8, n8, c8, e8, es8, rfl, rfl, hs8, hr8, hn8, hp8⟩ := hres.shape hgl1
        obtain ⟨rfl, hv8⟩ : e8 = .nilIface ∧ OpsV R8 [Sc.plain o] es8 := by
          rcases hp8 with ⟨_, _, _, h | h⟩ | ⟨_, ops, h, he, ho⟩
          · omega
          · rw [hpa] at h; cases h
          · rw [hpa] at h; cases h; exact ⟨he, ho⟩
        clear hp8
        refine ⟨?_⟩
        cbv
        refine ⟨fun c6 hc6 => ?_⟩
        have hc6' : c6 = ((j + 1 : Nat) : Int) := by rw [hc6, hn3']; rfl
        cbv
        refine ⟨fun c7 hc7 => ?_⟩
        rw [wrap_id (n := c6 - 1) (by ((try simp only [nc] at *); omega)) (by ((try simp only [nc] at *); omega))] at hc7
        cbv
        refine ⟨⟨by ((try simp only [nc] at *); omega), by ((try simp only [nc] at *); omega)⟩, ⟨fun lo hlo2 => ⟨fun ix hix => ⟨fun ln hln => ⟨fun cp hcp => ?_⟩⟩⟩⟩⟩
        have hix' : ix = j := by ((try simp only [nc] at *); omega)
        have hln' : ln = 1 := by ((try simp only [nc] at *); omega)
        have hv9 : OpsV R8 [Sc.plain o] ((es3.drop ix).take ln) := by
          rw [he, hix', hln', List.drop_append_of_le_length (by omega), List.drop_of_length_le (by omega)]
          exact .cons ⟨k1, i1, n1, .slice q4 m5 e4, .slice q5 m6 e5, .slice q6 m7 e6, rfl, hp.mono hs8⟩ .nil
        have hop : OpI (Sc.plain o) := opI_plain hoi
        cbv
        refine CallAt.use [3] [.buf es3 6 40] [.raw (.slice q8 n8 c8), .sl 0 0 ix 6 ln cp] e14' (h14 [Sc.plain o] [Sc.plain o] _ es8 es3 ix ln cp R8 hr8 hv8 hv9 hln' (by simpa using hop) (by simpa using hop) (by simp) (by simp)) rfl rfl rfl rfl ?_
        intro sv R9 H9 hres
        obtain ⟨b8, rfl, hR9, rfl, t8⟩ := hres
        obtain rfl := hR9.symm
        have hb8 : b8 = true := t8.2 rfl
        subst hb8
        cbv
        refine ⟨fun d9 hd9 => ?_⟩
        rw [wrap_id (n := xi + 1) (by ((try simp only [nc] at *); omega)) (by ((try simp only [nc] at *); omega))] at hd9
        have hd9' : d9 = ((j + 1 : Nat) : Int) := by ((try simp only [nc] at *); omega)
        subst hd9'
        refine hK' _ (j + 1, false, es3, n3, m3', R8) [some 3] (by cbv; repeat (first | exact trivial | refine ⟨.mk _, ?_⟩)) ⟨hs1.trans hs8, by ((try simp only [nc] at *); omega), hops3.mono hs8, hn3, hm3', hrt2, hok2⟩ (by ((try simp only [nc] at *); omega))
    · cases b
      · cbv
        refine CallAt.use [] [] [.agg (opC k0 i0 n0 (.slice q1 m1 d1) (.slice q2 m3 d2) (.slice q3 m4 d3))] e12' (h12 o k0 i0 n0 _ _ _ R1 ho0) rfl rfl rfl rfl ?_
        intro sv R6 H6 hres
        apply W.out
        obtain ⟨k1, i1, n1, vs1, vk1, vd1, rfl, hR6, rfl, hp⟩ := hres
        obtain rfl := hR6.symm
        obtain ⟨q4, m5, e4, rfl, _, _⟩ := ROSl.shapeV hp.s
        obtain ⟨q5, m6, e5, rfl, _, _⟩ := ROSl.shapeV hp.b
        obtain ⟨q6, m7, e6, rfl, _, _⟩ := ROSl.shapeV hp.d
        refine ⟨?_⟩
        cbv
        refine ⟨_, rfl, rfl, ?_⟩
        cbv
        refine ⟨hn2, ?_⟩
        refine ⟨by simp; ((try simp only [nc] at *); omega), fun es3 n3 m3' he hn3 hm3' => ?_⟩
        have hops3 : OpsV R1 ((l.take (j + 1)).map Sc.plain) es3 := by
          rw [he, List.take_add_one, ho, List.map_append]
          exact hops.snoc ⟨k1, i1, n1, .slice q4 m5 e4, .slice q5 m6 e5, .slice q6 m7 e6, rfl, hp⟩
        have hn3' : n3 = j + 1 := by rw [hn3, hops3.len, List.length_map, List.length_take]; omega
        cbv
        refine CallAt.use [] [] [.agg (opC k0 i0 n0 (.slice q1 m1 d1) (.slice q2 m3 d2) (.slice q3 m4 d3))] e9' (h9 o k0 i0 n0 _ _ _ R1 hgl1 ho0 hoi) rfl rfl rfl rfl ?_
        intro sv R7 H7 hres
        apply W.out
        obtain ⟨t, e, rfl, hR7, rfl, hline⟩ := hres
        obtain rfl := hR7.symm
        obtain ⟨ht0, rfl⟩ : t.data.toList = [] ∧ e = .iface 145 (.pointer (some (ad 1))) := by
          rcases hline with ⟨h, _⟩ | ⟨_, h, g, _⟩
          · have := hb.2 (hls.1 (by rw [h]; rfl))
            cases this
          · exact ⟨h, g.trans (hA1.glV (by decide))⟩
        clear hline
        refine ⟨?_⟩
        cbv
        refine ⟨fun b5 t5' => ?_⟩
        have hb5 : b5 = false := by
          cases b5
          · rfl
          · exact absurd rfl (t5'.1 rfl)
        subst hb5
        cbv
        refine ⟨fun b6 t6 => ?_⟩
        have hb6 : b6 = false := by
          cases b6
          · rfl
          · exact absurd (bstr_eq.2 ht0) (t6.1 rfl)
        subst hb6
        cbv
        refine CallAt.use [] [] [.raw (.iface 145 (.pointer (some (ad 1))))] e13' (h13 R1 ad hA1 1 (Or.inr rfl)) rfl rfl rfl rfl ?_
        intro sv R8 H8 hres
        obtain ⟨rfl, hR8, rfl⟩ := hres
        obtain rfl := hR8.symm
        cbv
        refine ⟨fun b7 t7 => ?_⟩
        have hb7 : b7 = false := by
          cases b7
          · rfl
          · exact absurd rfl (t7.1 rfl)
        subst hb7
        cbv
        refine ⟨fun d9 hd9 => ?_⟩
        rw [wrap_id (n := xi + 1) (by ((try simp only [nc] at *); omega)) (by ((try simp only [nc] at *); omega))] at hd9
        have hd9' : d9 = ((j + 1 : Nat) : Int) := by ((try simp only [nc] at *); omega)
        subst hd9'
        refine hK' _ (j + 1, false, es3, n3, m3', R1) [some 3] (by cbv; repeat (first | exact trivial | refine ⟨.mk _, ?_⟩)) ⟨hs1, by ((try simp only [nc] at *); omega), hops3, hn3, hm3', hrt2, hok2⟩ (by ((try simp only [nc] at *); omega))
      · cbv
        refine CallAt.use [] [] [.agg (opC k0 i0 n0 (.slice q1 m1 d1) (.slice q2 m3 d2) (.slice q3 m4 d3))] e12' (h12 o k0 i0 n0 _ _ _ R1 ho0) rfl rfl rfl rfl ?_
        intro sv R6 H6 hres
        apply W.out
        obtain ⟨k1, i1, n1, vs1, vk1, vd1, rfl, hR6, rfl, hp⟩ := hres
        obtain rfl := hR6.symm
        obtain ⟨q4, m5, e4, rfl, _, _⟩ := ROSl.shapeV hp.s
        obtain ⟨q5, m6, e5, rfl, _, _⟩ := ROSl.shapeV hp.b
        obtain ⟨q6, m7, e6, rfl, _, _⟩ := ROSl.shapeV hp.d
        refine ⟨?_⟩
        cbv
        refine ⟨_, rfl, rfl, ?_⟩
        cbv
        refine ⟨hn2, ?_⟩
        refine ⟨by simp; ((try simp only [nc] at *); omega), fun es3 n3 m3' he hn3 hm3' => ?_⟩
        have hops3 : OpsV R1 ((l.take (j + 1)).map Sc.plain) es3 := by
          rw [he, List.take_add_one, ho, List.map_append]
          exact hops.snoc ⟨k1, i1, n1, .slice q4 m5 e4, .slice q5 m6 e5, .slice q6 m7 e6, rfl, hp⟩
        have hn3' : n3 = j + 1 := by rw [hn3, hops3.len, List.length_map, List.length_take]; omega
        cbv
        refine CallAt.use [] [] [.agg (opC k0 i0 n0 (.slice q1 m1 d1) (.slice q2 m3 d2) (.slice q3 m4 d3))] e9' (h9 o k0 i0 n0 _ _ _ R1 hgl1 ho0 hoi) rfl rfl rfl rfl ?_
        intro sv R7 H7 hres
        apply W.out
        obtain ⟨t, e, rfl, hR7, rfl, hline⟩ := hres
        obtain rfl := hR7.symm
        obtain ⟨hlo, rfl⟩ : Sc.lineL o = some t.data.toList ∧ e = .nilIface := by
          rcases hline with h | ⟨h, _⟩
          · exact h
          · have := hls.2 (hb.1 rfl)
            rw [h] at this; cases this
        clear hline
        have hol := (Sc.op_line hlo).2.2
        have htz := bsize t
        have h10z : (⟨⟨[10]⟩⟩ : ByteArray).size = 1 := rfl
        refine ⟨?_⟩
        cbv
        refine ⟨fun b5 t5' => ?_⟩
        have hb5 : b5 = false := by
          cases b5
          · rfl
          · exact absurd rfl (t5'.1 rfl)
        subst hb5
        cbv
        refine ⟨by rw [h10z]; omega, ⟨fun t2 ht2 => ?_⟩⟩
        have ht2l : t2.data.toList = t.data.toList ++ [10] := by rw [ht2]; simp
        have ht2n : t2.data.toList.length = t.data.toList.length + 1 := by rw [ht2l, List.length_append]; rfl
        have hpa : Sc.parseL t2.data.toList = some [Sc.plain o] := by
          have h := Sc.parse_flat (ops := [o]) (ls := [t.data.toList]) (by simp [Sc.allL, hlo])
          rw [ht2l]
          simpa [Sc.flatN] using h
        cbv
        refine CallAt.use [] [] [.raw (.string t2)] e8' (h8 t2 R1 hgl1) rfl rfl rfl rfl ?_
        intro sv R8 H8 hres
        apply W.out
        obtain ⟨q8, n8, c8, e8, es8, rfl, rfl, hs8, hr8, hn8, hp8⟩ := hres.shape hgl1
        obtain ⟨rfl, hv8⟩ : e8 = .nilIface ∧ OpsV R8 [Sc.plain o] es8 := by
          rcases hp8 with ⟨_, _, _, h | h⟩ | ⟨_, ops, h, he, ho⟩
          · omega
          · rw [hpa] at h; cases h
          · rw [hpa] at h; cases h; exact ⟨he, ho⟩
        clear hp8
        refine ⟨?_⟩
        cbv
        refine ⟨fun c6 hc6 => ?_⟩
        have hc6' : c6 = ((j + 1 : Nat) : Int) := by rw [hc6, hn3']; rfl
        cbv
        refine ⟨fun c7 hc7 => ?_⟩
        rw [wrap_id (n := c6 - 1) (by ((try simp only [nc] at *); omega)) (by ((try simp only [nc] at *); omega))] at hc7
        cbv
        refine ⟨⟨by ((try simp only [nc] at *); omega), by ((try simp only [nc] at *); omega)⟩, ⟨fun lo hlo2 => ⟨fun ix hix => ⟨fun ln hln => ⟨fun cp hcp => ?_⟩⟩⟩⟩⟩
        have hix' : ix = j := by ((try simp only [nc] at *); omega)
        have hln' : ln = 1 := by ((try simp only [nc] at *); omega)
        have hv9 : OpsV R8 [Sc.plain o] ((es3.drop ix).take ln) := by
          rw [he, hix', hln', List.drop_append_of_le_length (by omega), List.drop_of_length_le (by omega)]
          exact .cons ⟨k1, i1, n1, .slice q4 m5 e4, .slice q5 m6 e5, .slice q6 m7 e6, rfl, hp.mono hs8⟩ .nil
        have hop : OpI (Sc.plain o) := opI_plain hoi
        cbv
        refine CallAt.use [3] [.buf es3 6 40] [.raw (.slice q8 n8 c8), .sl 0 0 ix 6 ln cp] e14' (h14 [Sc.plain o] [Sc.plain o] _ es8 es3 ix ln cp R8 hr8 hv8 hv9 hln' (by simpa using hop) (by simpa using hop) (by simp) (by simp)) rfl rfl rfl rfl ?_
        intro sv R9 H9 hres
        obtain ⟨b8, rfl, hR9, rfl, t8⟩ := hres
        obtain rfl := hR9.symm
        have hb8 : b8 = true := t8.2 rfl
        subst hb8
        cbv
        refine ⟨fun d9 hd9 => ?_⟩
        rw [wrap_id (n := xi + 1) (by ((try simp only [nc] at *); omega)) (by ((try simp only [nc] at *); omega))] at hd9
        have hd9' : d9 = ((j + 1 : Nat) : Int) := by ((try simp only [nc] at *); omega)
        subst hd9'
        refine hK' _ (j + 1, true, es3, n3, m3', R8) [some 3] (by cbv; repeat (first | exact trivial | refine ⟨.mk _, ?_⟩)) ⟨hs1.trans hs8, by ((try simp only [nc] at *); omega), hops3.mono hs8, hn3, hm3', hrt2, hok2⟩ (by ((try simp only [nc] at *); omega))
end Go.Proofs

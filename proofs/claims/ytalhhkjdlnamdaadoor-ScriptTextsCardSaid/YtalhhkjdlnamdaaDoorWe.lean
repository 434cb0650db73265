/-
  Get, Line, alive: what they compute.
-/
import Derived.Test.YtalhhkjdlnamdaaDoorWd
namespace Go.Proofs
open Go Go.SX
set_option maxRecDepth 100000
/-- an op of Go's ints, of no more than so many bytes -/
structure OpI (o : Sc.Op) : Prop where
  k : I64 o.kind
  i : I64 o.node
  n : I64 o.n
  s : ∀ x ∈ o.set, I64 x
  ls : o.set.length ≤ 2 ^ 40
  lb : o.keep.length ≤ 2 ^ 40
  ld : o.data.length ≤ 2 ^ 40
set_option maxHeartbeats 4000000 in
theorem f21 (kit : Kit Tryd.prog) (o : Sc.Op) (k i n : Int) (vs vk vd : Value) (p : UInt8) (pn : Int) (hpn : pn = zN p.toNat) (R : RO) (hgl : Gl R) (ho : OpR R o k i n vs vk vd) (hoi : OpI o) :
    CallW Tryd.prog 21 [.agg (opC k i n vs vk vd), .raw (.int .u8 pn)] R [] (StrRes R (Sc.getL o p)) := by
  have e32' := e32
  have e33' := e33
  have e34' := e34
  have e35' := e35
  have h32 := f32 kit
  have h33 := f33 kit
  have h34 := f34 kit
  have h35 := f35
  have hm : Tryd.prog.follows .mixedOrders = true := by kernel_rfl
  refine vcF_ok Tryd.func21 c21 ?_
  generalize hK : StrRes R (Sc.getL o p) = K
  revert e32' e33' e34' e35' h32 h33 h34 h35 hm
  clear kit
  generalize Tryd.prog = P
  intro e32' e33' e34' e35' h32 h33 h34 h35 hm
  have hpn' : pn = (p.toNat : Int) := hpn
  have hq : ∀ q : UInt8, (pn = zN q.toNat ↔ p = q) := fun q => by
    simp only [zN]; rw [hpn', ← UInt8.toNat_inj]; omega
  have q110 : pn = 110 ↔ p = 110 := hq 110
  have q105 : pn = 105 ↔ p = 105 := hq 105
  have q104 : pn = 104 ↔ p = 104 := hq 104
  have q112 : pn = 112 ↔ p = 112 := hq 112
  obtain ⟨rk, ri, rn, rs, rb, rd⟩ := ho
  subst rk; subst ri; subst rn
  clear hq hpn hpn'
  obtain ⟨qd, nd, cd, rfl, hnd, _⟩ := ROSl.shapeV rd
  obtain ⟨qb, nb, cb, rfl, hnb, _⟩ := ROSl.shapeV rb
  obtain ⟨qs, ns, cs, rfl, hns, _⟩ := ROSl.shapeV rs
  have hnd' : nd = o.data.length := by rw [hnd]; simp [byV]
  have hnb' : nb = o.keep.length := by rw [hnb]; simp [boolV]
  cbv
  refine ⟨fun b1 h1 => ?_⟩
  cases b1
  · have n1 : ¬ p = 110 := fun h => by cases h1.2 (q110.2 h)
    cbv
    refine ⟨fun b2 h2 => ?_⟩
    cases b2
    · have n2 : ¬ p = 105 := fun h => by cases h2.2 (q105.2 h)
      cbv
      refine ⟨fun b3 h3 => ?_⟩
      cases b3
      · have n3 : ¬ p = 104 := fun h => by cases h3.2 (q104.2 h)
        cbv
        refine ⟨fun b4 h4 => ?_⟩
        cases b4
        · have n4 : ¬ p = 112 := fun h => by cases h4.2 (q112.2 h)
          have hget : Sc.getL o p = if o.keep.length ≤ 64 then some (Sc.unbitL o.keep) else none := by
            unfold Sc.getL; rw [if_neg n1, if_neg n2, if_neg n3, if_neg n4]
          cbv
          refine draw_rule hm ?_
          cbv
          refine ⟨fun c1 hc1 => ?_⟩
          have hc1' : c1 = o.keep.length := by rw [hc1, hnb']; rfl
          cbv
          refine ⟨fun b5 h5 => ?_⟩
          cbv
          refine CallAt.use [] [] [.raw (.slice qb nb cb)] e35' (h35 o.keep _ R rb hoi.lb) rfl rfl rfl rfl ?_
          intro sv R' H' hres
          obtain ⟨t, rfl, rfl, rfl, ht⟩ := hres
          cbv
          refine ⟨.mk _, ?_⟩
          rw [← hK]
          refine ⟨t, b5, rfl, rfl, rfl, ?_, ?_⟩
          · rw [hget, Bool.eq_iff_iff, h5]
            by_cases hle : o.keep.length ≤ 64
            · rw [if_pos hle]; simp only [Option.isSome_some, iff_true]; ((try simp only [nc] at *); omega)
            · rw [if_neg hle]; simp only [Option.isSome_none, Bool.false_eq_true, iff_false]; ((try simp only [nc] at *); omega)
          · intro x hx
            rw [hget] at hx
            split at hx
            · next hle => cases hx; exact ht hle
            · cases hx
        · have n4 : p = 112 := q112.1 (h4.1 rfl)
          subst n4
          cbv
          refine CallAt.use [] [] [.raw (.slice qs ns cs)] e34' (h34 o.set _ R rs hoi.s hgl hoi.ls) rfl rfl rfl rfl ?_
          intro sv R' H' hres
          unfold StrRes at hres
          obtain ⟨t, b, rfl, rfl, rfl, hb, ht⟩ := hres
          cbv
          rw [← hK]
          exact ⟨t, b, rfl, rfl, rfl, hb, ht⟩
      · have n3 : p = 104 := q104.1 (h3.1 rfl)
        subst n3
        cbv
        refine draw_rule hm ?_
        cbv
        refine ⟨fun c1 hc1 => ?_⟩
        have hc1' : c1 = o.data.length := by rw [hc1, hnd']; rfl
        cbv
        refine ⟨fun b5 h5 => ?_⟩
        cbv
        refine CallAt.use [] [] [.raw (.slice qd nd cd)] e33' (h33 o.data _ R rd hoi.ld) rfl rfl rfl rfl ?_
        intro sv R' H' hres
        obtain ⟨t, rfl, rfl, rfl, ht⟩ := hres
        cbv
        refine ⟨.mk _, ?_⟩
        rw [← hK]
        refine ⟨t, b5, rfl, rfl, rfl, ?_, ?_⟩
        · rw [Sc.get_h, Bool.eq_iff_iff, h5]
          by_cases hle : o.data.length ≤ 65535
          · rw [if_pos hle]; simp only [Option.isSome_some, iff_true]; ((try simp only [nc] at *); omega)
          · rw [if_neg hle]; simp only [Option.isSome_none, Bool.false_eq_true, iff_false]; ((try simp only [nc] at *); omega)
        · intro x hx
          rw [Sc.get_h] at hx
          split at hx
          · next hle => cases hx; exact ht hle
          · cases hx
    · have n2 : p = 105 := q105.1 (h2.1 rfl)
      subst n2
      cbv
      refine CallAt.use [] [] [.raw (.int .i64 o.node)] e32' (h32 o.node hoi.i R hgl) rfl rfl rfl rfl ?_
      intro sv R' H' hres
      unfold StrRes at hres
      obtain ⟨t, b, rfl, rfl, rfl, hb, ht⟩ := hres
      cbv
      rw [← hK]
      exact ⟨t, b, rfl, rfl, rfl, hb, ht⟩
  · have n1 : p = 110 := q110.1 (h1.1 rfl)
    subst n1
    cbv
    refine CallAt.use [] [] [.raw (.int .i64 o.n)] e32' (h32 o.n hoi.n R hgl) rfl rfl rfl rfl ?_
    intro sv R' H' hres
    unfold StrRes at hres
    obtain ⟨t, b, rfl, rfl, rfl, hb, ht⟩ := hres
    cbv
    rw [← hK]
    exact ⟨t, b, rfl, rfl, rfl, hb, ht⟩
end Go.Proofs

namespace Go.Proofs
open Go Go.SX
set_option maxRecDepth 100000
def idxF (k : Int) : List (Int × Sc.Bs × Sc.Bs) → Nat → Int
  | [], _ => -1
  | f :: r, j => if f.1 = k then j else idxF k r (j + 1)
theorem idxF_drop {k : Int} {i : Nat} {f : Int × Sc.Bs × Sc.Bs} (h : Sc.forms[i]? = some f) :
    idxF k (Sc.forms.drop i) i = if f.1 = k then (i : Int) else idxF k (Sc.forms.drop (i + 1)) (i + 1) := by
  obtain ⟨h1, h2⟩ := List.getElem?_eq_some_iff.1 h
  rw [List.drop_eq_getElem_cons h1, h2]; rfl
theorem idxF_spec (k : Int) : ∀ (l : List (Int × Sc.Bs × Sc.Bs)) (o : Sc.Op) (j : Nat), o.kind = k → (idxF k l j = -1 ∧ Sc.lineF o l = none) ∨ (∃ (m : Nat) (f : Int × Sc.Bs × Sc.Bs), idxF k l j = ((j + m : Nat) : Int) ∧ l[m]? = some f ∧ Sc.lineF o l = Sc.getsL o f.2.2 f.2.1)
  | [], o, j, _ => .inl ⟨rfl, rfl⟩
  | f :: r, o, j, hk => by
    by_cases hf : f.1 = k
    · right
      refine ⟨0, f, ?_, rfl, ?_⟩
      · simp [idxF, hf]
      · simp [Sc.lineF, hf, hk]
    · rcases idxF_spec k r o (j + 1) hk with ⟨h1, h2⟩ | ⟨m, f', h1, h2, h3⟩
      · left; simp [idxF, hf, h1, Sc.lineF, hk, h2]
      · right
        refine ⟨m + 1, f', ?_, by simpa using h2, ?_⟩
        · simp [idxF, hf, h1]; omega
        · simp [Sc.lineF, hf, hk, h3]

set_option maxHeartbeats 1000000 in
theorem f18 (k i n : Int) (vs vk vd : Value) (v : Value) (R : RO) (hr : ROSl R v formsV 3) :
    CallW Tryd.prog 18 [.raw v, .fn (.func 20) .nil (.cons 1 (.ptr 0 0) .nil)] R [.cells (opC k i n vs vk vd) 32]
      (fun sv R' H' => sv = .raw (.int .i64 (idxF k Sc.forms 0)) ∧ R' = R ∧ H' = [.cells (opC k i n vs vk vd) 32]) := by
  have v20 := fun (args : List SV) (R : RO) (H : List SObj) K h => @vcF_ok Tryd.prog R H 20 _ _ Tryd.func20 c20 args K h
  have e20' := e20
  refine vcF_ok Tryd.func18 c18 ?_
  generalize hK : (fun (sv : SV) (R' : RO) (H' : List SObj) => sv = .raw (.int .i64 (idxF k Sc.forms 0)) ∧ R' = R ∧ H' = [.cells (opC k i n vs vk vd) 32]) = K
  revert v20 e20'
  generalize Tryd.prog = P
  intro v20 e20'
  obtain ⟨k2, o2, cap2, hv2, hcap2⟩ := hr.shapeN (by simp [formsV, Sc.forms])
  obtain ⟨n2, hn2⟩ : ∃ n2, n2 = formsV.length := ⟨_, rfl⟩
  rw [← hn2] at hv2 hcap2
  subst hv2
  have hn2' : n2 = 10 := hn2
  cbv
  refine ⟨fun c1 hc1 => ?_⟩
  have hc1' : c1 = 10 := by rw [hc1, hn2']; rfl
  cbv
  refine loop_at (fun s (x : Nat) => { s with tm := s.tm.put 8 (.raw (.int .i64 x)) })
    (fun x => x ≤ 10 ∧ idxF k Sc.forms 0 = idxF k (Sc.forms.drop x) x)
    (fun x => 10 - x) 0 [some 0] (by cbv; repeat (first | exact trivial | refine ⟨.mk _, ?_⟩)) ⟨by omega, rfl⟩ ?_
  rintro x ⟨hx, hfs⟩ K' hK'
  simp only at hx hfs hK' ⊢
  obtain ⟨xi, hxi⟩ : ∃ xi : Int, xi = x := ⟨_, rfl⟩
  rw [← hxi]
  cbv
  refine ⟨fun b1 h1 => ?_⟩
  cases b1
  · have hlt : ¬ xi < c1 := fun h => by cases h1.2 h
    have hx10 : x = 10 := by ((try simp only [nc] at *); omega)
    subst hx10
    cbv
    rw [← hK]
    refine ⟨?_, rfl, rfl⟩
    rw [hfs]; rfl
  · have hlt : xi < c1 := h1.1 rfl
    have hxlt : x < 10 := by ((try simp only [nc] at *); omega)
    obtain ⟨⟨fk, fw, fp⟩, hf⟩ : ∃ f, Sc.forms[x]? = some f := ⟨_, List.getElem?_eq_getElem (by simpa [Sc.forms] using hxlt)⟩
    have hfv : formsV[x]? = some (formV (fk, fw, fp)) := by simp [formsV, hf]
    rw [idxF_drop hf] at hfs
    simp only at hfs
    cbv
    refine ⟨by ((try simp only [nc] at *); omega), by ((try simp only [nc] at *); omega), fun j hj => ?_⟩
    have hjx : j = x := by ((try simp only [nc] at *); omega)
    subst hjx
    refine .mk _ _ _ hr hfv rfl ?_
    cbv
    refine .mk e20' (v20 _ _ _ _ ?_)
    cbv
    refine ⟨⟨⟨_, rfl, rfl, by simp [scal]⟩, by decide⟩, ?_⟩
    cbv
    refine ⟨fun b2 h2 => ?_⟩
    cases b2
    · have hne : ¬ fk = k := fun h => by cases h2.2 h
      cbv
      refine ⟨fun c9 hc9 => ?_⟩
      rw [wrap_id (n := xi + 1) (by ((try simp only [nc] at *); omega)) (by ((try simp only [nc] at *); omega))] at hc9
      have hc9' : c9 = ((j + 1 : Nat) : Int) := by ((try simp only [nc] at *); omega)
      subst hc9'
      rw [if_neg hne] at hfs
      refine hK' _ (j + 1) [some 0] (by cbv; repeat (first | exact trivial | refine ⟨.mk _, ?_⟩)) ⟨by ((try simp only [nc] at *); omega), hfs⟩ (by ((try simp only [nc] at *); omega))
    · have heq : fk = k := h2.1 rfl
      cbv
      rw [← hK]
      refine ⟨?_, rfl, rfl⟩
      rw [hfs, if_pos heq, hxi]; rfl

/-- Line's end -/
def LineRes (R : RO) (o : Sc.Op) : SV → RO → List SObj → Prop := fun sv R' H' =>
  ∃ (t : ByteArray) (e : Value), sv = .tup (.cons 1 (.raw (.string t)) (.cons 1 (.raw e) .nil)) ∧ R' = R ∧ H' = [] ∧
    ((Sc.lineL o = some t.data.toList ∧ e = .nilIface) ∨ (Sc.lineL o = none ∧ t.data.toList = [] ∧ e = glV R 1 ∧ ∃ a b, e = .iface a b))

set_option maxHeartbeats 4000000 in
theorem f9 (kit : Kit Tryd.prog) (o : Sc.Op) (k i n : Int) (vs vk vd : Value) (R : RO) (hgl : Gl R) (ho : OpR R o k i n vs vk vd) (hoi : OpI o) :
    CallW Tryd.prog 9 [.agg (opC k i n vs vk vd)] R [] (LineRes R o) := by
  have e18' := e18
  have e19' := e19
  have e21' := e21
  have h18 := f18
  have h19 := f19
  have h21 := f21 kit
  have hm : Tryd.prog.follows .mixedOrders = true := by kernel_rfl
  refine CallW.shrink (vcF_ok Tryd.func9 c9 ?_)
  generalize hK : (fun (sv : SV) (_ : RO) (H' : List SObj) => LineRes R o sv R H') = K
  revert e18' e19' e21' h18 h19 h21 hm
  clear kit
  generalize Tryd.prog = P
  intro e18' e19' e21' h18 h19 h21 hm
  obtain ⟨arr0, et0, f0, arr1, et1, f1, t0, p0, t1, p1, hg0, hv0, hg1, hv1⟩ := id hgl.err
  have hgv1 : glV R 1 = .iface t1 p1 := by simp only [glV, hg1, Array.getD_eq_getD_getElem?, hv1]; rfl
  have hgk : ∀ s, s = ev .nil (.global 1) → True := fun _ _ => trivial
  have bad : Sc.lineL o = none → ∀ Rx, K (.tup (.cons 1 (.raw (.string ⟨#[]⟩)) (.cons 1 (.raw (.iface t1 p1)) .nil))) Rx [] := fun h Rx => by
    rw [← hK]
    exact ⟨⟨#[]⟩, _, rfl, rfl, rfl, .inr ⟨h, rfl, hgv1.symm, _, _, rfl⟩⟩
  have hidx := idxF_spec k Sc.forms o 0 ho.k
  cbv
  refine CallAt.use [] [] [] e19' (h19 R) rfl rfl rfl rfl ?_
  intro sv R1 H1 hres
  obtain ⟨vf, rfl, rfl, hs1, hr1⟩ := hres
  cbv
  refine CallAt.use [0] [.cells (opC k i n vs vk vd) 32] [.raw vf, .fn (.func 20) .nil (.cons 1 (.ptr 0 0) .nil)] e18' (h18 k i n vs vk vd vf R1 hr1) rfl rfl rfl rfl ?_
  intro sv R2 H2 hres
  obtain ⟨rfl, rfl, rfl⟩ := hres
  obtain ⟨ix, hix⟩ : ∃ ix, idxF k Sc.forms 0 = ix := ⟨_, rfl⟩
  rw [hix]
  rw [hix] at hidx
  cbv
  refine ⟨fun b1 h1 => ?_⟩
  cases b1
  · have hpos : ¬ ix < 0 := fun h => by cases h1.2 h
    obtain ⟨m, ⟨fk, fw, fp⟩, hm1, hf, hline⟩ : ∃ (m : Nat) (f : Int × Sc.Bs × Sc.Bs), ix = ((0 + m : Nat) : Int) ∧ Sc.forms[m]? = some f ∧ Sc.lineF o Sc.forms = Sc.getsL o f.2.2 f.2.1 := by
      rcases hidx with ⟨g, _⟩ | g
      · omega
      · exact g
    have hm10 : m < 10 := (List.getElem?_eq_some_iff.1 hf).1
    have hfv : formsV[m]? = some (formV (fk, fw, fp)) := by simp [formsV, hf]
    have hfo := Sc.forms_ok _ (List.mem_of_getElem? hf)
    have hfpl : fp.length ≤ 3 := hfo.2.2.2.2.2
    have hfwl : fw.length ≤ 7 := hfo.2.2.2.2.1
    have hll : Sc.lineL o = Sc.getsL o fp fw := hline
    cbv
    refine CallAt.use [] [] [] e19' (h19 R2) rfl rfl rfl rfl ?_
    intro sv R3 H3 hres
    obtain ⟨vf2, rfl, rfl, hs3, hr3⟩ := hres
    obtain ⟨k2, o2, cap2, hv2, hcap2⟩ := hr3.shapeN (by simp [formsV, Sc.forms])
    obtain ⟨n2, hn2⟩ : ∃ n2, n2 = formsV.length := ⟨_, rfl⟩
    rw [← hn2] at hv2 hcap2
    subst hv2
    have hn2' : n2 = 10 := hn2
    have ho3 := ho.mono (hs1.trans hs3)
    have hgl3 := hgl.mono (hs1.trans hs3)
    have hg13 := (hs1.trans hs3) _ _ hg1
    cbv
    refine ⟨by ((try simp only [nc] at *); omega), by ((try simp only [nc] at *); omega), fun j hj => ?_⟩
    have hjm : j = m := by ((try simp only [nc] at *); omega)
    subst hjm
    refine .mk _ _ _ hr3 hfv rfl ?_
    cbv
    refine ⟨⟨⟨_, rfl, rfl, by simp [scal]⟩, by decide⟩, ?_⟩
    cbv
    refine ⟨fun c5 hc5 => ?_⟩
    have hc5' : c5 = (fp.length : Int) := by rw [hc5]; rfl
    cbv
    refine loop_at (fun s (x : Nat × ByteArray) => { s with tm := (s.tm.put 25 (.raw (.int .i64 x.1))).put 6 (.raw (.string x.2)) })
      (fun x => x.1 ≤ fp.length ∧ Sc.lineL o = Sc.getsL o (fp.drop x.1) x.2.data.toList ∧ x.2.size ≤ 7 + x.1 * 2 ^ 42)
      (fun x => fp.length - x.1) (0, ⟨⟨fw⟩⟩) [some 0, some 1] (by cbv; repeat (first | exact trivial | refine ⟨.mk _, ?_⟩)) ⟨by omega, by simpa using hll, Nat.le_trans hfwl (Nat.le_add_right _ _)⟩ ?_
    rintro ⟨x, t⟩ ⟨hx1, hln, htz⟩ K2 hK2
    simp only at hx1 hln htz hK2 ⊢
    obtain ⟨xi, hxi⟩ : ∃ xi : Int, xi = x := ⟨_, rfl⟩
    rw [← hxi]
    cbv
    refine ⟨fun b4 h4 => ?_⟩
    cases b4
    · have hge : ¬ xi < c5 := fun h => by cases h4.2 h
      have hxf : x = fp.length := by ((try simp only [nc] at *); omega)
      rw [hxf, List.drop_length] at hln
      cbv
      rw [← hK]
      exact ⟨t, _, rfl, rfl, rfl, .inl ⟨hln, rfl⟩⟩
    · have hlt2 : xi < c5 := h4.1 rfl
      have hxf : x < fp.length := by ((try simp only [nc] at *); omega)
      obtain ⟨p, hp⟩ : ∃ p, fp[x]? = some p := ⟨_, List.getElem?_eq_getElem hxf⟩
      have hdp : fp.drop x = p :: fp.drop (x + 1) := by
        have g := List.getElem?_eq_some_iff.1 hp
        rw [List.drop_eq_getElem_cons g.1, g.2]
      have hpl : p ∈ Sc.letters := hfo.2.1 p (List.mem_of_getElem? hp)
      rw [hdp] at hln
      simp only [Sc.getsL] at hln
      cbv
      refine draw_rule hm ?_
      cbv
      refine ⟨by ((try simp only [nc] at *); omega), by show xi < (fp.length : Int); ((try simp only [nc] at *); omega), fun m1 hm2 => ?_⟩
      have hmm : m1 = x := by ((try simp only [nc] at *); omega)
      subst hmm
      refine ⟨fun pc pn hpc hpn => ?_⟩
      have hpp : pc = p := by
        have : fp[m1]? = some pc := by simpa using hpc
        rw [hp] at this; cases this; rfl
      subst hpp
      cbv
      refine CallAt.use [] [] [.agg (opC k i n vs vk vd), .raw (.int .u8 pn)] e21' (h21 o k i n vs vk vd pc pn hpn R3 hgl3 ho3 hoi) rfl rfl rfl rfl ?_
      intro sv R4 H4 hres
      unfold StrRes at hres
      obtain ⟨w, b, rfl, rfl, rfl, hb, hw⟩ := hres
      cases b
      · have hnone : Sc.lineL o = none := by rw [hln, isS_f hb]; rfl
        cbv
        refine ⟨.mk _, ?_⟩
        refine draw_rule hm ?_
        cbv
        refine .sc rfl rfl hg13 hv1 ?_
        cbv
        exact bad hnone _
      · cbv
        refine ⟨.mk _, ?_⟩
        obtain ⟨y, hy⟩ := isS_t hb
        have hwy := hw y hy
        have hyl := Sc.get_len hpl hy
        have hwz : w.size ≤ 64 + 2 * o.data.length := by rw [bsize, hwy]; exact hyl
        have hld := hoi.ld
        rw [hy] at hln
        simp only [Option.bind_some] at hln
        refine ⟨by show 1 + w.size ≤ 2 ^ 62; omega, ⟨fun t2 ht2 => ?_⟩⟩
        have ht2l : t2.data.toList = 32 :: y := by rw [ht2]; simp [hwy]
        have ht2z : t2.size = 1 + w.size := by rw [bsize, ht2l, bsize, hwy]; simp; omega
        cbv
        refine ⟨by show t.size + t2.size ≤ 2 ^ 62; omega, ⟨fun t3 ht3 => ?_⟩⟩
        have ht3l : t3.data.toList = t.data.toList ++ 32 :: y := by rw [ht3]; simp [ht2l]
        have ht3z : t3.size = t.size + t2.size := by rw [bsize, ht3l, bsize, bsize, ht2l]; simp
        cbv
        refine ⟨fun c9 hc9 => ?_⟩
        rw [wrap_id (n := xi + 1) (by ((try simp only [nc] at *); omega)) (by ((try simp only [nc] at *); omega))] at hc9
        have hc9' : c9 = ((m1 + 1 : Nat) : Int) := by ((try simp only [nc] at *); omega)
        subst hc9'
        refine hK2 _ (m1 + 1, t3) [some 0, some 1] (by cbv; repeat (first | exact trivial | refine ⟨.mk _, ?_⟩)) ⟨by ((try simp only [nc] at *); omega), ?_, ?_⟩ (by ((try simp only [nc] at *); omega))
        · rw [hln, ht3l]
        · simp only; omega
  · have hneg : ix < 0 := h1.1 rfl
    have hnone : Sc.lineL o = none := by
      rcases hidx with ⟨_, g⟩ | ⟨m, f, g, _⟩
      · exact g
      · ((try simp only [nc] at *); omega)
    have hg12 := hs1 _ _ hg1
    cbv
    refine draw_rule hm ?_
    cbv
    refine .sc rfl rfl hg12 hv1 ?_
    cbv
    rw [← hK]
    exact ⟨⟨#[]⟩, _, rfl, rfl, rfl, .inr ⟨hnone, rfl, hgv1.symm, _, _, rfl⟩⟩
end Go.Proofs

namespace Go.Proofs
open Go Go.SX
set_option maxRecDepth 100000
theorem I64_small {n : Int} (h : 0 ≤ n ∧ n ≤ 999999) : I64 n := ⟨by omega, by omega⟩
theorem set_opI {o o' : Sc.Op} {p : UInt8} {s : Sc.Bs} (hs : s.length ≤ 65535) (h : Sc.setL o p s = some o') (hi : OpI o) : OpI o' := by
  rcases Sc.set_inv h with ⟨_, x, hx, rfl⟩ | ⟨_, x, hx, rfl⟩ | ⟨_, x, hx, rfl⟩ | ⟨_, x, hx, rfl⟩ | ⟨_, x, hx, rfl⟩
  · exact { hi with n := I64_small (Sc.digits_num hx).2 }
  · exact { hi with i := I64_small (Sc.digits_num hx).2 }
  · exact { hi with ld := by have := (Sc.hex_inv hx).2; simp only; omega }
  · refine { hi with s := fun y hy => ?_, ls := by have := (Sc.pow_inv hx).2; simp only; omega }
    have h1 := (Sc.pow_inv hx).1
    have h2 : (Sc.unpowL x).isSome = true := by rw [h1]; rfl
    exact I64_small ((Sc.unpow_iff.1 h2).2 y hy)
  · exact { hi with lb := by have := (Sc.bit_inv hx).2; simp only; omega }
theorem sets_opI : ∀ {ps : Sc.Bs} {ws : List Sc.Bs} {o o' : Sc.Op}, (∀ w ∈ ws, w.length ≤ 65535) → Sc.setsL o ps ws = some o' → OpI o → OpI o'
  | [], ws, o, o', _, h, hi => by simp [Sc.setsL] at h; subst h; exact hi
  | p :: ps, [], o, o', _, h, hi => by simp [Sc.setsL] at h; subst h; exact hi
  | p :: ps, w :: ws, o, o', hw, h, hi => by
    simp only [Sc.setsL] at h
    cases ho : Sc.setL o p w with
    | none => rw [ho] at h; cases h
    | some o1 =>
      rw [ho] at h
      exact sets_opI (fun x hx => hw x (by simp [hx])) h (set_opI (hw w (by simp)) ho hi)
theorem op_opI {l : Sc.Bs} {o : Sc.Op} (hl : l.length ≤ 65535) (h : Sc.opL l = some o) : OpI o := by
  unfold Sc.opL at h
  cases hs : Sc.spl 32 l with
  | nil => exact absurd hs (Sc.spl_ne 32 l)
  | cons w ws =>
    rw [hs] at h
    obtain ⟨f, hf, hw, hlen, ho⟩ := Sc.opF_mem h
    refine sets_opI (fun x hx => by have := Sc.spl_le (c := 32) (s := l) (w := x) (by rw [hs]; simp [hx]); omega) ho ?_
    have hk : 0 ≤ f.1 ∧ f.1 ≤ 999999 := by
      have : ∀ f ∈ Sc.forms, 0 ≤ f.1 ∧ f.1 ≤ 999999 := by decide
      exact this f hf
    exact ⟨I64_small hk, ⟨by simp [Sc.zop], by simp [Sc.zop]⟩, ⟨by simp [Sc.zop], by simp [Sc.zop]⟩, by simp [Sc.zop], by simp [Sc.zop], by simp [Sc.zop], by simp [Sc.zop]⟩
theorem parse_opI : ∀ {s : Sc.Bs} {ops : List Sc.Op}, s.length ≤ 65535 → Sc.parseL s = some ops → ∀ o ∈ ops, OpI o ∧ ∃ l, Sc.lineL o = some l := by
  intro s
  induction hn : s.length using Nat.strongRecOn generalizing s with
  | _ n ih =>
    intro ops hl h
    rcases Sc.cut_of (s := s) 10 with h1 | ⟨l, r, h1, h2⟩
    · by_cases hs : s = []
      · subst hs; rw [Sc.parse_nil] at h; cases h; simp
      · rw [Sc.parse_bad h1 hs] at h; cases h
    · subst h1
      rw [Sc.parse_cut h2] at h
      cases ho : Sc.opL l with
      | none => rw [ho] at h; cases h
      | some o =>
        rw [ho] at h
        simp only [Option.bind_some, Option.map_eq_some_iff] at h
        obtain ⟨z, h3, h4⟩ := h
        subst h4
        simp only [List.length_append, List.length_cons] at hn
        intro x hx
        rcases List.mem_cons.1 hx with hx | hx
        · subst hx; exact ⟨op_opI (by omega) ho, l, Sc.line_op (by omega) ho⟩
        · exact ih r.length (by omega) rfl (by omega) h3 x hx

theorem OpV.shape {R : RO} {o : Sc.Op} {v : Value} (h : OpV R o v) : ∃ k i n q1 n1 c1 q2 n2 c2 q3 n3 c3, v = .agg #[.int .i64 k, .int .i64 i, .int .i64 n, .slice q1 n1 c1, .slice q2 n2 c2, .slice q3 n3 c3] ∧
    OpR R o k i n (.slice q1 n1 c1) (.slice q2 n2 c2) (.slice q3 n3 c3) := by
  obtain ⟨k, i, n, vs, vk, vd, rfl, ho⟩ := h
  obtain ⟨q1, n1, c1, rfl, _⟩ := ROSl.shapeV ho.s
  obtain ⟨q2, n2, c2, rfl, _⟩ := ROSl.shapeV ho.b
  obtain ⟨q3, n3, c3, rfl, _⟩ := ROSl.shapeV ho.d
  exact ⟨k, i, n, q1, n1, c1, q2, n2, c2, q3, n3, c3, rfl, ho⟩
theorem OpsV.get {R : RO} : ∀ {l : List Sc.Op} {vs : List Value} {j : Nat} {o : Sc.Op}, OpsV R l vs → l[j]? = some o → ∃ v, vs[j]? = some v ∧ OpV R o v
  | _, _, _, _, .nil, h => by simp at h
  | _, _, 0, _, .cons a _, h => by simp at h; subst h; exact ⟨_, rfl, a⟩
  | _, _, j + 1, _, .cons _ b, h => by simpa using OpsV.get b (by simpa using h)

def aliveB : Sc.Bs := [116, 105, 99, 107, 32, 48, 10, 100, 101, 108, 105, 118, 101, 114, 32, 48, 10]
theorem alive_parse : Sc.parseL aliveB = some [Sc.zop 4, Sc.zop 1] := by rfl

/-- a bool, and nothing else -/
def BoolRes (R : RO) (b : Bool) : SV → RO → List SObj → Prop := fun sv R' H' => sv = .raw (.bool b) ∧ R' = R ∧ H' = []

set_option maxHeartbeats 1000000 in
theorem f7 (kit : Kit Tryd.prog) (R : RO) (hgl : Gl R) : CallW Tryd.prog 7 [] R [] (BoolRes R true) := by
  have e8' := e8
  have h8 := f8 kit
  refine CallW.shrink (vcF_ok Tryd.func7 c7 ?_)
  generalize hK : (fun (sv : SV) (_ : RO) (H' : List SObj) => BoolRes R true sv R H') = K
  revert e8' h8
  clear kit
  generalize Tryd.prog = P
  intro e8' h8
  cbv
  refine CallAt.use [] [] [.raw (.string ⟨⟨aliveB⟩⟩)] e8' (h8 ⟨⟨aliveB⟩⟩ R hgl) rfl rfl rfl rfl ?_
  intro sv R1 H1 hres
  apply W.out
  unfold ParseRes at hres
  obtain ⟨v, e, es, rfl, rfl, hs1, hr1, hpar⟩ := hres
  have hpa : Sc.parseL (⟨⟨aliveB⟩⟩ : ByteArray).data.toList = some [Sc.zop 4, Sc.zop 1] := alive_parse
  obtain ⟨he, hops⟩ : e = .nilIface ∧ OpsV R1 [Sc.zop 4, Sc.zop 1] es := by
    rcases hpar with ⟨h, _⟩ | ⟨_, h, _⟩ | ⟨_, ops, h, he, ho⟩
    · exact absurd h (by decide)
    · rw [hpa] at h; cases h
    · rw [hpa] at h; cases h; exact ⟨he, ho⟩
  subst he
  obtain ⟨v0, hv0, hov0⟩ := hops.get (j := 0) rfl
  obtain ⟨v1, hv1, hov1⟩ := hops.get (j := 1) rfl
  obtain ⟨k0, i0, n0, q1, n1, c1, q2, n2, c2, q3, n3, c3, rfl, ho0⟩ := hov0.shape
  obtain ⟨k1, i1, m0, r1, m1, d1, r2, m2, d2, r3, m3, d3, rfl, ho1⟩ := hov1.shape
  have hk0 : k0 = 4 := ho0.k.symm
  have hk1 : k1 = 1 := ho1.k.symm
  subst hk0; subst hk1
  have hel : es.length = 2 := hops.len
  obtain ⟨kk, oo, cap, hv, hcap⟩ := hr1.shapeN (by intro e; rw [e] at hel; cases hel)
  rw [hel] at hv
  subst hv
  refine ⟨?_⟩
  cbv
  refine ⟨fun c1 hc1 => ?_⟩
  have hc1' : c1 = 2 := hc1
  subst hc1'
  cbv
  refine ⟨fun b1 h1 => ?_⟩
  have hb1 : b1 = true := h1.2 rfl
  subst hb1
  cbv
  refine ⟨by decide, by decide, fun j hj => ?_⟩
  cbv
  refine .mk _ _ _ hr1 (by rw [hj]; exact hv0) rfl ?_
  cbv
  refine ⟨fun b2 h2 => ?_⟩
  have hb2 : b2 = true := h2.2 rfl
  subst hb2
  cbv
  refine ⟨by decide, by decide, fun j2 hj2 => ?_⟩
  cbv
  refine .mk _ _ _ hr1 (by rw [hj2]; exact hv1) rfl ?_
  cbv
  refine ⟨fun b3 h3 => ?_⟩
  have hb3 : b3 = true := h3.2 rfl
  subst hb3
  cbv
  rw [← hK]
  exact ⟨rfl, rfl, rfl⟩
end Go.Proofs

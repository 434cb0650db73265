/-
  WriteString, Len, Text: what they compute.
-/
import Derived.Test.YtalhhkjdlnamdaaDoorWd
import Derived.Test.YtalhhkjdlnamdaaDoorCodb
import Derived.Test.YtalhhkjdlnamdaaDoorWf
namespace Go.Proofs
open Go Go.SX
set_option maxRecDepth 100000
theorem f23f (kit : Kit Tryd.prog) (t : ByteArray) (R : RO) (hbig : t.size ≤ 2 ^ 40) : CallW Tryd.prog 23 [.ptr 0 0, .raw (.string t)] R [.cells (.cons 1 (.raw (.pointer none)) (.cons 1 (.raw (.slice none 0 0)) .nil)) 63]
    (fun sv R' H' => ∃ es n m c, sv = .tup (.cons 1 (.raw (.int .i64 c)) (.cons 1 (.raw .nilIface) .nil)) ∧ R' = R ∧ es = bytesV t ∧ n = es.length ∧ n ≤ m ∧ H' = [.cells (.cons 1 (.ptr 0 0) (.cons 1 (.sl 1 0 0 1 n m) .nil)) 63, .buf es 1 5]) := by
  have e36 := kit.e36
  have h36 := kit.h36f
  refine vcF_ok Tryd.func23 c23 ?_
  generalize hK : (fun (sv : SV) (R' : RO) (H' : List SObj) => ∃ es n m c, sv = .tup (.cons 1 (.raw (.int .i64 c)) (.cons 1 (.raw .nilIface) .nil)) ∧ R' = R ∧ es = bytesV t ∧ n = es.length ∧ n ≤ m ∧ H' = [.cells (.cons 1 (.ptr 0 0) (.cons 1 (.sl 1 0 0 1 n m) .nil)) 63, .buf es 1 5]) = K
  revert e36 h36
  clear kit
  generalize Tryd.prog = P
  intro e36 h36
  cbv
  refine CallAt.use [0] [_] [.ptr 0 0] e36 (h36 R) rfl rfl rfl rfl ?_
  intro sv R' H' hres
  obtain ⟨rfl, rfl, rfl⟩ := hres
  cbv
  refine ⟨fun bs hbs => ?_⟩
  have hl : bs.length = t.size := by rw [hbs, bytesV_len, bsize]
  cbv
  refine ⟨by simp; ((try simp only [nc] at *); omega), fun es n m he hn hm => ?_⟩
  cbv
  refine ⟨fun c hc => ?_⟩
  cbv
  rw [← hK]
  exact ⟨es, n, m, c, rfl, rfl, by rw [he, hbs]; rfl, hn, hm, rfl⟩
theorem f23u (kit : Kit Tryd.prog) (t : ByteArray) (R : RO) (es0 : List Value) (n0 m0 : Nat) (hn0 : n0 = es0.length) (hbig : t.size ≤ 2 ^ 40) (hbig0 : es0.length ≤ 2 ^ 40) :
    CallW Tryd.prog 23 [.ptr 0 0, .raw (.string t)] R [.cells (.cons 1 (.ptr 0 0) (.cons 1 (.sl 1 0 0 1 n0 m0) .nil)) 63, .buf es0 1 5]
    (fun sv R' H' => ∃ es n m c, sv = .tup (.cons 1 (.raw (.int .i64 c)) (.cons 1 (.raw .nilIface) .nil)) ∧ R' = R ∧ es = es0 ++ bytesV t ∧ n = es.length ∧ n ≤ m ∧ H' = [.cells (.cons 1 (.ptr 0 0) (.cons 1 (.sl 2 0 0 1 n m) .nil)) 63, .dead, .buf es 1 5]) := by
  have e36 := kit.e36
  have h36 := kit.h36u
  refine vcF_ok Tryd.func23 c23 ?_
  generalize hK : (fun (sv : SV) (R' : RO) (H' : List SObj) => ∃ es n m c, sv = .tup (.cons 1 (.raw (.int .i64 c)) (.cons 1 (.raw .nilIface) .nil)) ∧ R' = R ∧ es = es0 ++ bytesV t ∧ n = es.length ∧ n ≤ m ∧ H' = [.cells (.cons 1 (.ptr 0 0) (.cons 1 (.sl 2 0 0 1 n m) .nil)) 63, .dead, .buf es 1 5]) = K
  revert e36 h36
  clear kit
  generalize Tryd.prog = P
  intro e36 h36
  cbv
  refine CallAt.use [0, 1] [.cells (.cons 1 (.ptr 0 0) (.cons 1 (.sl 1 0 0 1 n0 m0) .nil)) 63, .buf es0 1 5] [.ptr 0 0] e36 (h36 R (.sl 1 0 0 1 n0 m0) [.buf es0 1 5]) rfl rfl rfl rfl ?_
  intro sv R' H' hres
  obtain ⟨rfl, rfl, rfl⟩ := hres
  cbv
  refine ⟨fun bs hbs => ?_⟩
  have hl : bs.length = t.size := by rw [hbs, bytesV_len, bsize]
  cbv
  refine ⟨hn0, ?_⟩
  refine ⟨by simp; ((try simp only [nc] at *); omega), fun es n m he hn hm => ?_⟩
  cbv
  refine ⟨fun c hc => ?_⟩
  cbv
  rw [← hK]
  exact ⟨es, n, m, c, rfl, rfl, by rw [he, hbs], hn, hm, rfl⟩
theorem f22 (R : RO) (n m : Nat) (es : List Value) : CallW Tryd.prog 22 [.ptr 0 0] R [.cells (.cons 1 (.ptr 0 0) (.cons 1 (.sl 1 0 0 1 n m) .nil)) 63, .buf es 1 5]
    (fun sv R' H' => ∃ c, sv = .raw (.int .i64 c) ∧ c = (n : Int) ∧ R' = R ∧ H' = [.cells (.cons 1 (.ptr 0 0) (.cons 1 (.sl 1 0 0 1 n m) .nil)) 63, .buf es 1 5]) := by
  refine vcF_ok Tryd.func22 c22 ?_
  generalize hK : (fun (sv : SV) (R' : RO) (H' : List SObj) => ∃ c, sv = .raw (.int .i64 c) ∧ c = (n : Int) ∧ R' = R ∧ H' = [.cells (.cons 1 (.ptr 0 0) (.cons 1 (.sl 1 0 0 1 n m) .nil)) 63, .buf es 1 5]) = K
  generalize Tryd.prog = P
  cbv
  refine ⟨fun c hc => ?_⟩
  cbv
  rw [← hK]
  exact ⟨c, rfl, hc, rfl, rfl⟩
theorem f22f (R : RO) : CallW Tryd.prog 22 [.ptr 0 0] R [.cells (.cons 1 (.raw (.pointer none)) (.cons 1 (.raw (.slice none 0 0)) .nil)) 63]
    (fun sv R' H' => sv = .raw (.int .i64 0) ∧ R' = R ∧ H' = [.cells (.cons 1 (.raw (.pointer none)) (.cons 1 (.raw (.slice none 0 0)) .nil)) 63]) := by
  refine vcF_ok Tryd.func22 c22 ?_
  generalize hK : (fun (sv : SV) (R' : RO) (H' : List SObj) => sv = .raw (.int .i64 0) ∧ R' = R ∧ H' = [.cells (.cons 1 (.raw (.pointer none)) (.cons 1 (.raw (.slice none 0 0)) .nil)) 63]) = K
  generalize Tryd.prog = P
  cbv
  refine ⟨fun c hc => ?_⟩
  have : c = 0 := hc
  subst this
  cbv
  rw [← hK]
  exact ⟨rfl, rfl, rfl⟩
end Go.Proofs

namespace Go.Proofs
open Go Go.SX
set_option maxRecDepth 100000
/-- Text's end -/
def TextRes (R : RO) (ops : List Sc.Op) : SV → RO → List SObj → Prop := fun sv R' H' =>
  ∃ (t : ByteArray) (e : Value), sv = .tup (.cons 1 (.raw (.string t)) (.cons 1 (.raw e) .nil)) ∧ R' = R ∧ H' = [] ∧
    ((Sc.textL ops = .ok t.data.toList ∧ e = .nilIface) ∨ (Sc.textL ops = .error 1 ∧ t.data.toList = [] ∧ e = glV R 1 ∧ ∃ a b, e = .iface a b) ∨ (Sc.textL ops = .error 2 ∧ t.data.toList = [] ∧ e = glV R 0 ∧ ∃ a b, e = .iface a b))
theorem textG_cons (o : Sc.Op) (r : List Sc.Op) (out : Sc.Bs) (lg : Bool) : Sc.textG (o :: r) out lg = match Sc.lineL o with
    | none => .error 1
    | some l => if lg ∨ 65535 ≤ l.length + out.length then Sc.textG r out true else Sc.textG r (out ++ (l ++ [10])) false := rfl
theorem textG_drop {ops : List Sc.Op} {x : Nat} {o : Sc.Op} (h : ops[x]? = some o) (out : Sc.Bs) (lg : Bool) : Sc.textG (ops.drop x) out lg = match Sc.lineL o with
    | none => .error 1
    | some l => if lg ∨ 65535 ≤ l.length + out.length then Sc.textG (ops.drop (x + 1)) out true else Sc.textG (ops.drop (x + 1)) (out ++ (l ++ [10])) false := by
  obtain ⟨h1, h2⟩ := List.getElem?_eq_some_iff.1 h
  rw [List.drop_eq_getElem_cons h1, h2]; rfl

set_option maxHeartbeats 8000000 in
theorem f10 (kit : Kit Tryd.prog) (ops : List Sc.Op) (v : Value) (es : List Value) (R : RO) (hgl : Gl R) (hr : ROSl R v es 6) (hv : OpsV R ops es) (hoi : ∀ o ∈ ops, OpI o) (hbig : ops.length ≤ 2 ^ 40) :
    CallW Tryd.prog 10 [.raw v] R [] (TextRes R ops) := by
  have e9' := e9
  have e22' := e22
  have e23' := e23
  have e24 := kit.e24
  have h9 := f9 kit
  have h22 := f22
  have h22f := f22f
  have h23f := f23f kit
  have h23u := f23u kit
  have h24u := kit.h24u
  have h24f := kit.h24f
  have hm : Tryd.prog.follows .mixedOrders = true := by kernel_rfl
  refine CallW.shrink (vcF_ok Tryd.func10 c10 ?_)
  generalize hK : (fun (sv : SV) (_ : RO) (H' : List SObj) => TextRes R ops sv R H') = K
  revert e9' e22' e23' e24 h9 h22 h22f h23f h23u h24u h24f hm
  clear kit
  generalize Tryd.prog = P
  intro e9' e22' e23' e24 h9 h22 h22f h23f h23u h24u h24f hm
  obtain ⟨arr0, et0, f0, arr1, et1, f1, t0, p0, t1, p1, hg0, hv0, hg1, hv1⟩ := id hgl.err
  have hgv1 : glV R 1 = .iface t1 p1 := by simp only [glV, hg1, Array.getD_eq_getD_getElem?, hv1]; rfl
  have hgv0 : glV R 0 = .iface t0 p0 := by simp only [glV, hg0, Array.getD_eq_getD_getElem?, hv0]; rfl
  have bad : Sc.textL ops = .error 1 → ∀ Rx, K (.tup (.cons 1 (.raw (.string ⟨#[]⟩)) (.cons 1 (.raw (.iface t1 p1)) .nil))) Rx [] := fun h Rx => by
    rw [← hK]
    exact ⟨⟨#[]⟩, _, rfl, rfl, rfl, .inr (.inl ⟨h, rfl, hgv1.symm, _, _, rfl⟩)⟩
  have long : Sc.textL ops = .error 2 → ∀ Rx, K (.tup (.cons 1 (.raw (.string ⟨#[]⟩)) (.cons 1 (.raw (.iface t0 p0)) .nil))) Rx [] := fun h Rx => by
    rw [← hK]
    exact ⟨⟨#[]⟩, _, rfl, rfl, rfl, .inr (.inr ⟨h, rfl, hgv0.symm, _, _, rfl⟩)⟩
  have good : ∀ t : ByteArray, Sc.textL ops = .ok t.data.toList → ∀ Rx, K (.tup (.cons 1 (.raw (.string t)) (.cons 1 (.raw .nilIface) .nil))) Rx [] := fun t h Rx => by
    rw [← hK]
    exact ⟨t, _, rfl, rfl, rfl, .inl ⟨h, rfl⟩⟩
  obtain ⟨q, n, cap, rfl, hn, hcap⟩ := ROSl.shapeV hr
  have hnl : n = ops.length := by rw [hn, hv.len]
  cbv
  refine ⟨fun c1 hc1 => ?_⟩
  have hc1' : c1 = ops.length := by rw [hc1, hnl]; rfl
  cbv
  refine loop_at (fun s (x : Nat × Bool × Option (List Value × Nat × Nat)) => { s with tm := (s.tm.put 12 (.raw (.int .i64 x.1))).put 5 (.raw (.bool x.2.1)), heap := match x.2.2 with
        | none => s.heap
        | some (es, n, m) => [.cells (.cons 1 (.ptr 0 0) (.cons 1 (.sl 1 0 0 1 n m) .nil)) 63, .buf es 1 5] })
    (fun x => x.1 ≤ ops.length ∧ ∃ out : ByteArray, out.data.toList.length ≤ 65535 ∧ Sc.textL ops = Sc.textG (ops.drop x.1) out.data.toList x.2.1 ∧ match x.2.2 with
      | none => out.data.toList = []
      | some (es, n, m) => es = bytesV out ∧ n = es.length ∧ n ≤ m ∧ n ≠ 0)
    (fun x => ops.length - x.1) (0, false, none) [some 0] (by cbv; repeat (first | exact trivial | refine ⟨.mk _, ?_⟩)) ⟨by omega, ⟨#[]⟩, by simp, rfl, rfl⟩ ?_
  rintro ⟨x, lg, ob⟩ ⟨hx, out, houtl, htx, hob⟩ K' hK'
  simp only at hx houtl htx hob hK' ⊢
  obtain ⟨xi, hxi⟩ : ∃ xi : Int, xi = x := ⟨_, rfl⟩
  rw [← hxi]
  rcases ob with _ | ⟨es0, nb, mb⟩
  · simp only at hob hK' ⊢
    cbv
    refine ⟨fun b1 h1 => ?_⟩
    cases b1
    · have hlt : ¬ xi < c1 := fun h => by cases h1.2 h
      have hxe : x = ops.length := by ((try simp only [nc] at *); omega)
      have hend : Sc.textL ops = if lg then .error 2 else .ok out.data.toList := by rw [htx, hxe, List.drop_length]; rfl
      cases lg
      · cbv
        refine CallAt.use [0] [.cells (.cons 1 (.raw (.pointer none)) (.cons 1 (.raw (.slice none 0 0)) .nil)) 63] [.ptr 0 0] e24 (h24f _) rfl rfl rfl rfl ?_
        intro sv R5 H5 hres
        apply W.out
        obtain ⟨rfl, rfl, rfl⟩ := hres
        refine ⟨?_⟩
        cbv
        exact good ⟨#[]⟩ (by rw [hend, hob]; rfl) _
      · cbv
        refine draw_rule hm ?_
        cbv
        refine .sc rfl rfl hg0 hv0 ?_
        cbv
        exact long hend _
    · have hlt : xi < c1 := h1.1 rfl
      have hxl : x < ops.length := by ((try simp only [nc] at *); omega)
      obtain ⟨o, ho⟩ : ∃ o, ops[x]? = some o := ⟨_, List.getElem?_eq_getElem hxl⟩
      obtain ⟨v, hv, hov⟩ := hv.get ho
      obtain ⟨k0, i0, n0, q1, n1, d1, q2, n2, d2, q3, n3, d3, rfl, ho0⟩ := hov.shape
      have htg := textG_drop ho out.data.toList lg
      obtain ⟨kr, or, rfl⟩ := ROSl.some hr (by omega)
      cbv
      refine ⟨by ((try simp only [nc] at *); omega), by ((try simp only [nc] at *); omega), fun j hj => ?_⟩
      have hjx : j = x := by ((try simp only [nc] at *); omega)
      subst hjx
      refine .mk _ _ _ hr hv rfl ?_
      cbv
      refine ⟨⟨⟨_, rfl, rfl, by simp [scal]⟩, by decide⟩, ?_⟩
      cbv
      refine CallAt.use [] [] [.agg (opC k0 i0 n0 (.slice q1 n1 d1) (.slice q2 n2 d2) (.slice q3 n3 d3))] e9' (h9 o k0 i0 n0 _ _ _ _ hgl ho0 (hoi o (List.mem_of_getElem? ho))) rfl rfl rfl rfl ?_
      intro sv R5 H5 hres
      apply W.out
      obtain ⟨t, e, rfl, rfl, rfl, ⟨hl, rfl⟩ | ⟨hl, _, rfl, ⟨ea, eb, hev⟩⟩⟩ := hres
      rotate_left
      · rw [hl] at htg
        rw [hev]
        rw [hev] at hgv1
        obtain ⟨rfl, rfl⟩ : ea = t1 ∧ eb = p1 := by cases hgv1; exact ⟨rfl, rfl⟩
        refine ⟨?_⟩
        cbv
        exact bad (htx.trans htg) _
      rw [hl] at htg
      simp only at htg
      refine ⟨?_⟩
      cbv
      cases lg
      rotate_left
      · have hx2 : j + 1 ≤ ops.length ∧ ∃ out : ByteArray, out.data.toList.length ≤ 65535 ∧ Sc.textL ops = Sc.textG (ops.drop (j + 1)) out.data.toList true ∧ out.data.toList = [] := ⟨by omega, out, houtl, htx.trans (by rw [htg]; simp), hob⟩
        cbv
        refine ⟨fun c9 hc9 => ?_⟩
        rw [wrap_id (n := xi + 1) (by ((try simp only [nc] at *); omega)) (by ((try simp only [nc] at *); omega))] at hc9
        have hc9' : c9 = ((j + 1 : Nat) : Int) := by ((try simp only [nc] at *); omega)
        subst hc9'
        exact hK' _ (j + 1, true, none) [some 0] (by cbv; repeat (first | exact trivial | refine ⟨.mk _, ?_⟩)) hx2 (by ((try simp only [nc] at *); omega))
      · cbv
        refine ⟨fun c3 hc3 => ?_⟩
        have hc3' : c3 = t.data.toList.length := by rw [hc3, bsize]; rfl
        cbv
        refine CallAt.use [0] [.cells (.cons 1 (.raw (.pointer none)) (.cons 1 (.raw (.slice none 0 0)) .nil)) 63] [.ptr 0 0] e22' (h22f _) rfl rfl rfl rfl ?_
        intro sv R5 H5 hres
        obtain ⟨rfl, rfl, rfl⟩ := hres
        cbv
        refine ⟨fun c4 hc4 => ?_⟩
        have hc4' : c4 = 65535 := by rw [hc4]; rfl
        subst hc4'
        cbv
        refine ⟨fun b3 h3 => ?_⟩
        cases b3
        · have hsm : ¬ 65535 ≤ c3 := fun h => by cases h3.2 h
          have hts : t.data.toList.length < 65535 := by ((try simp only [nc] at *); omega)
          have htz := bsize t
          have h10 : (⟨⟨[10]⟩⟩ : ByteArray).size = 1 := rfl
          cbv
          refine ⟨by rw [h10]; omega, ⟨fun ab hab => ?_⟩⟩
          have habl : ab.data.toList = t.data.toList ++ [10] := by rw [hab]; simp
          have habz : ab.size = t.data.toList.length + 1 := (bsize ab).trans (by rw [habl]; simp)
          cbv
          refine CallAt.use [0] [.cells (.cons 1 (.raw (.pointer none)) (.cons 1 (.raw (.slice none 0 0)) .nil)) 63] [.ptr 0 0, .raw (.string ab)] e23' (h23f ab _ (by omega)) rfl rfl rfl rfl ?_
          intro sv R6 H6 hres
          obtain ⟨es5, n5, m5, c5, rfl, rfl, he5, hn5, hm5, rfl⟩ := hres
          have hel5 : es5.length = t.data.toList.length + 1 := by rw [he5, bytesV_len, habz]
          have hx2 : j + 1 ≤ ops.length ∧ ∃ out : ByteArray, out.data.toList.length ≤ 65535 ∧ Sc.textL ops = Sc.textG (ops.drop (j + 1)) out.data.toList false ∧ es5 = bytesV out ∧ n5 = es5.length ∧ n5 ≤ m5 ∧ n5 ≠ 0 := by
            refine ⟨by omega, ab, by rw [← bsize ab]; omega, htx.trans ?_, he5, hn5, hm5, by omega⟩
            rw [htg, if_neg (by rw [hob]; simp; omega), hob, habl]; rfl
          cbv
          refine ⟨fun c9 hc9 => ?_⟩
          rw [wrap_id (n := xi + 1) (by ((try simp only [nc] at *); omega)) (by ((try simp only [nc] at *); omega))] at hc9
          have hc9' : c9 = ((j + 1 : Nat) : Int) := by ((try simp only [nc] at *); omega)
          subst hc9'
          exact hK' _ (j + 1, false, some (es5, n5, m5)) [some 0, some 2] (by cbv; repeat (first | exact trivial | refine ⟨.mk _, ?_⟩)) hx2 (by ((try simp only [nc] at *); omega))
        · have hsm : 65535 ≤ c3 := h3.1 rfl
          have hx2 : j + 1 ≤ ops.length ∧ ∃ out : ByteArray, out.data.toList.length ≤ 65535 ∧ Sc.textL ops = Sc.textG (ops.drop (j + 1)) out.data.toList true ∧ out.data.toList = [] := ⟨by omega, out, houtl, htx.trans (by rw [htg, if_pos (Or.inr (by ((try simp only [nc] at *); omega)))]), hob⟩
          cbv
          refine ⟨fun c9 hc9 => ?_⟩
          rw [wrap_id (n := xi + 1) (by ((try simp only [nc] at *); omega)) (by ((try simp only [nc] at *); omega))] at hc9
          have hc9' : c9 = ((j + 1 : Nat) : Int) := by ((try simp only [nc] at *); omega)
          subst hc9'
          exact hK' _ (j + 1, true, none) [some 0] (by cbv; repeat (first | exact trivial | refine ⟨.mk _, ?_⟩)) hx2 (by ((try simp only [nc] at *); omega))
  · simp only at hob hK' ⊢
    obtain ⟨hes0, hn0, hm0, hn00⟩ := hob
    have hol : out.data.toList.length = nb := by rw [hn0, hes0, bytesV_len, bsize]
    cbv
    refine ⟨fun b1 h1 => ?_⟩
    cases b1
    · have hlt : ¬ xi < c1 := fun h => by cases h1.2 h
      have hxe : x = ops.length := by ((try simp only [nc] at *); omega)
      have hend : Sc.textL ops = if lg then .error 2 else .ok out.data.toList := by rw [htx, hxe, List.drop_length]; rfl
      cases lg
      · cbv
        refine CallAt.use [0, 1] [.cells (.cons 1 (.ptr 0 0) (.cons 1 (.sl 1 0 0 1 nb mb) .nil)) 63, .buf es0 1 5] [.ptr 0 0] e24 (h24u _ out es0 nb mb hes0 (by rw [bsize, hol]) hn00 (by omega) (by omega)) rfl rfl rfl rfl ?_
        intro sv R5 H5 hres
        apply W.out
        obtain ⟨rfl, rfl, rfl⟩ := hres
        refine ⟨?_⟩
        cbv
        exact good out hend _
      · cbv
        refine draw_rule hm ?_
        cbv
        refine .sc rfl rfl hg0 hv0 ?_
        cbv
        exact long hend _
    · have hlt : xi < c1 := h1.1 rfl
      have hxl : x < ops.length := by ((try simp only [nc] at *); omega)
      obtain ⟨o, ho⟩ : ∃ o, ops[x]? = some o := ⟨_, List.getElem?_eq_getElem hxl⟩
      obtain ⟨v, hv, hov⟩ := hv.get ho
      obtain ⟨k0, i0, n0, q1, n1, d1, q2, n2, d2, q3, n3, d3, rfl, ho0⟩ := hov.shape
      have htg := textG_drop ho out.data.toList lg
      obtain ⟨kr, or, rfl⟩ := ROSl.some hr (by omega)
      cbv
      refine ⟨by ((try simp only [nc] at *); omega), by ((try simp only [nc] at *); omega), fun j hj => ?_⟩
      have hjx : j = x := by ((try simp only [nc] at *); omega)
      subst hjx
      refine .mk _ _ _ hr hv rfl ?_
      cbv
      refine ⟨⟨⟨_, rfl, rfl, by simp [scal]⟩, by decide⟩, ?_⟩
      cbv
      refine CallAt.use [] [] [.agg (opC k0 i0 n0 (.slice q1 n1 d1) (.slice q2 n2 d2) (.slice q3 n3 d3))] e9' (h9 o k0 i0 n0 _ _ _ _ hgl ho0 (hoi o (List.mem_of_getElem? ho))) rfl rfl rfl rfl ?_
      intro sv R5 H5 hres
      apply W.out
      obtain ⟨t, e, rfl, rfl, rfl, ⟨hl, rfl⟩ | ⟨hl, _, rfl, ⟨ea, eb, hev⟩⟩⟩ := hres
      rotate_left
      · rw [hl] at htg
        rw [hev]
        rw [hev] at hgv1
        obtain ⟨rfl, rfl⟩ : ea = t1 ∧ eb = p1 := by cases hgv1; exact ⟨rfl, rfl⟩
        refine ⟨?_⟩
        cbv
        exact bad (htx.trans htg) _
      rw [hl] at htg
      simp only at htg
      refine ⟨?_⟩
      cbv
      cases lg
      rotate_left
      · have hx2 : j + 1 ≤ ops.length ∧ ∃ out : ByteArray, out.data.toList.length ≤ 65535 ∧ Sc.textL ops = Sc.textG (ops.drop (j + 1)) out.data.toList true ∧ es0 = bytesV out ∧ nb = es0.length ∧ nb ≤ mb ∧ nb ≠ 0 := ⟨by omega, out, houtl, htx.trans (by rw [htg]; simp), hes0, hn0, hm0, hn00⟩
        cbv
        refine ⟨fun c9 hc9 => ?_⟩
        rw [wrap_id (n := xi + 1) (by ((try simp only [nc] at *); omega)) (by ((try simp only [nc] at *); omega))] at hc9
        have hc9' : c9 = ((j + 1 : Nat) : Int) := by ((try simp only [nc] at *); omega)
        subst hc9'
        exact hK' _ (j + 1, true, some (es0, nb, mb)) [some 0, some 1] (by cbv; repeat (first | exact trivial | refine ⟨.mk _, ?_⟩)) hx2 (by ((try simp only [nc] at *); omega))
      · cbv
        refine ⟨fun c3 hc3 => ?_⟩
        have hc3' : c3 = t.data.toList.length := by rw [hc3, bsize]; rfl
        cbv
        refine CallAt.use [0, 1] [.cells (.cons 1 (.ptr 0 0) (.cons 1 (.sl 1 0 0 1 nb mb) .nil)) 63, .buf es0 1 5] [.ptr 0 0] e22' (h22 _ nb mb es0) rfl rfl rfl rfl ?_
        intro sv R5 H5 hres
        obtain ⟨c5, rfl, hc5, rfl, rfl⟩ := hres
        cbv
        refine ⟨fun c4 hc4 => ?_⟩
        rw [wrap_id (n := 65535 - c5) (by ((try simp only [nc] at *); omega)) (by ((try simp only [nc] at *); omega))] at hc4
        cbv
        refine ⟨fun b3 h3 => ?_⟩
        cases b3
        · have hsm : ¬ c4 ≤ c3 := fun h => by cases h3.2 h
          have hts : t.data.toList.length + out.data.toList.length < 65535 := by ((try simp only [nc] at *); omega)
          have htz := bsize t
          have h10 : (⟨⟨[10]⟩⟩ : ByteArray).size = 1 := rfl
          cbv
          refine ⟨by rw [h10]; omega, ⟨fun ab hab => ?_⟩⟩
          have habl : ab.data.toList = t.data.toList ++ [10] := by rw [hab]; simp
          have habz : ab.size = t.data.toList.length + 1 := (bsize ab).trans (by rw [habl]; simp)
          cbv
          refine CallAt.use [0, 1] [.cells (.cons 1 (.ptr 0 0) (.cons 1 (.sl 1 0 0 1 nb mb) .nil)) 63, .buf es0 1 5] [.ptr 0 0, .raw (.string ab)] e23' (h23u ab _ es0 nb mb hn0 (by omega) (by omega)) rfl rfl rfl rfl ?_
          intro sv R6 H6 hres
          obtain ⟨es5, n5, m5, c7, rfl, rfl, he5, hn5, hm5, rfl⟩ := hres
          have hel5 : es5.length = nb + (t.data.toList.length + 1) := by rw [he5, List.length_append, bytesV_len, habz, ← hn0]
          have hts2 := hts
          have hx2 : j + 1 ≤ ops.length ∧ ∃ out : ByteArray, out.data.toList.length ≤ 65535 ∧ Sc.textL ops = Sc.textG (ops.drop (j + 1)) out.data.toList false ∧ es5 = bytesV out ∧ n5 = es5.length ∧ n5 ≤ m5 ∧ n5 ≠ 0 := by
            refine ⟨by omega, out ++ ab, ?_, htx.trans ?_, ?_, hn5, hm5, by omega⟩
            · rw [show (out ++ ab).data.toList = out.data.toList ++ (t.data.toList ++ [10]) by simp [habl], List.length_append, List.length_append, List.length_singleton]; omega
            · rw [htg, if_neg (fun g => g.elim (fun g => by cases g) (fun g => by omega))]; simp [habl]
            · rw [he5, hes0]; simp [bytesV]
          cbv
          refine ⟨fun c9 hc9 => ?_⟩
          rw [wrap_id (n := xi + 1) (by ((try simp only [nc] at *); omega)) (by ((try simp only [nc] at *); omega))] at hc9
          have hc9' : c9 = ((j + 1 : Nat) : Int) := by ((try simp only [nc] at *); omega)
          subst hc9'
          exact hK' _ (j + 1, false, some (es5, n5, m5)) [some 0, some 3] (by cbv; repeat (first | exact trivial | refine ⟨.mk _, ?_⟩)) hx2 (by ((try simp only [nc] at *); omega))
        · have hsm : c4 ≤ c3 := h3.1 rfl
          have hx2 : j + 1 ≤ ops.length ∧ ∃ out : ByteArray, out.data.toList.length ≤ 65535 ∧ Sc.textL ops = Sc.textG (ops.drop (j + 1)) out.data.toList true ∧ es0 = bytesV out ∧ nb = es0.length ∧ nb ≤ mb ∧ nb ≠ 0 := ⟨by omega, out, houtl, htx.trans (by rw [htg, if_pos (Or.inr (by ((try simp only [nc] at *); omega)))]), hes0, hn0, hm0, hn00⟩
          cbv
          refine ⟨fun c9 hc9 => ?_⟩
          rw [wrap_id (n := xi + 1) (by ((try simp only [nc] at *); omega)) (by ((try simp only [nc] at *); omega))] at hc9
          have hc9' : c9 = ((j + 1 : Nat) : Int) := by ((try simp only [nc] at *); omega)
          subst hc9'
          exact hK' _ (j + 1, true, some (es0, nb, mb)) [some 0, some 1] (by cbv; repeat (first | exact trivial | refine ⟨.mk _, ?_⟩)) hx2 (by ((try simp only [nc] at *); omega))
end Go.Proofs

/-
  Plain, SameInts, Same, same, Right: what they compute.
-/
import Derived.Test.YtalhhkjdlnamdaaDoorWi
namespace Go.Proofs
open Go Go.SX
set_option maxRecDepth 100000
/-- Plain's end -/
def PlainRes (R : RO) (o : Sc.Op) : SV → RO → List SObj → Prop := fun sv R' H' =>
  ∃ k i n vs vk vd, sv = .agg (opC k i n vs vk vd) ∧ R' = R ∧ H' = [] ∧ OpR R (Sc.plain o) k i n vs vk vd
set_option maxHeartbeats 4000000 in
theorem f12 (o : Sc.Op) (k i n : Int) (vs vk vd : Value) (R : RO) (ho : OpR R o k i n vs vk vd) :
    CallW Tryd.prog 12 [.agg (opC k i n vs vk vd)] R [] (PlainRes R o) := by
  have hm : Tryd.prog.follows .mixedOrders = true := by kernel_rfl
  refine CallW.shrink (vcF_ok Tryd.func12 c12 ?_)
  generalize hK : (fun (sv : SV) (_ : RO) (H' : List SObj) => PlainRes R o sv R H') = K
  revert hm
  generalize Tryd.prog = P
  intro hm
  have hk := ho.k
  obtain ⟨q1, m1, d1, rfl, _, _⟩ := ROSl.shapeV ho.s
  obtain ⟨q2, m2, d2, rfl, _, _⟩ := ROSl.shapeV ho.b
  obtain ⟨q3, m3, d3, rfl, _, _⟩ := ROSl.shapeV ho.d
  have z1 : ROSl R (.slice none 0 0) (intV []) 1 := .nil 1 none
  have z2 : ROSl R (.slice none 0 0) (boolV []) 1 := .nil 1 none
  have z3 : ROSl R (.slice none 0 0) (byV []) 1 := .nil 1 none
  have plain1 : k = 1 → PlainRes R o (.agg (opC k (0) (n) (.slice none 0 0) (.slice none 0 0) (.slice none 0 0))) R [] := fun hc => ⟨k, 0, n, .slice none 0 0, .slice none 0 0, .slice none 0 0, rfl, rfl, rfl, by
    have e : o.kind = 1 := hk.trans hc
    simp only [Sc.plain, e]
    simp (decide := true) only [if_true, if_false, or_true, true_or, or_false, false_or]
    exact ⟨hc.symm, rfl, ho.n, z1, z2, z3⟩⟩
  have plain2 : k = 2 → PlainRes R o (.agg (opC k (0) (n) (.slice none 0 0) (.slice none 0 0) (.slice none 0 0))) R [] := fun hc => ⟨k, 0, n, .slice none 0 0, .slice none 0 0, .slice none 0 0, rfl, rfl, rfl, by
    have e : o.kind = 2 := hk.trans hc
    simp only [Sc.plain, e]
    simp (decide := true) only [if_true, if_false, or_true, true_or, or_false, false_or]
    exact ⟨hc.symm, rfl, ho.n, z1, z2, z3⟩⟩
  have plain3 : k = 3 → PlainRes R o (.agg (opC k (0) (n) (.slice none 0 0) (.slice none 0 0) (.slice none 0 0))) R [] := fun hc => ⟨k, 0, n, .slice none 0 0, .slice none 0 0, .slice none 0 0, rfl, rfl, rfl, by
    have e : o.kind = 3 := hk.trans hc
    simp only [Sc.plain, e]
    simp (decide := true) only [if_true, if_false, or_true, true_or, or_false, false_or]
    exact ⟨hc.symm, rfl, ho.n, z1, z2, z3⟩⟩
  have plain4 : k = 4 → PlainRes R o (.agg (opC k (i) (0) (.slice none 0 0) (.slice none 0 0) (.slice none 0 0))) R [] := fun hc => ⟨k, i, 0, .slice none 0 0, .slice none 0 0, .slice none 0 0, rfl, rfl, rfl, by
    have e : o.kind = 4 := hk.trans hc
    simp only [Sc.plain, e]
    simp (decide := true) only [if_true, if_false, or_true, true_or, or_false, false_or]
    exact ⟨hc.symm, ho.i, rfl, z1, z2, z3⟩⟩
  have plain5 : k = 5 → PlainRes R o (.agg (opC k (i) (0) (.slice none 0 0) (.slice none 0 0) (.slice q3 m3 d3))) R [] := fun hc => ⟨k, i, 0, .slice none 0 0, .slice none 0 0, .slice q3 m3 d3, rfl, rfl, rfl, by
    have e : o.kind = 5 := hk.trans hc
    simp only [Sc.plain, e]
    simp (decide := true) only [if_true, if_false, or_true, true_or, or_false, false_or]
    exact ⟨hc.symm, ho.i, rfl, z1, z2, ho.d⟩⟩
  have plain9 : k = 9 → PlainRes R o (.agg (opC k (i) (0) (.slice none 0 0) (.slice none 0 0) (.slice q3 m3 d3))) R [] := fun hc => ⟨k, i, 0, .slice none 0 0, .slice none 0 0, .slice q3 m3 d3, rfl, rfl, rfl, by
    have e : o.kind = 9 := hk.trans hc
    simp only [Sc.plain, e]
    simp (decide := true) only [if_true, if_false, or_true, true_or, or_false, false_or]
    exact ⟨hc.symm, ho.i, rfl, z1, z2, ho.d⟩⟩
  have plain6 : k = 6 → PlainRes R o (.agg (opC k (i) (0) (.slice q1 m1 d1) (.slice none 0 0) (.slice none 0 0))) R [] := fun hc => ⟨k, i, 0, .slice q1 m1 d1, .slice none 0 0, .slice none 0 0, rfl, rfl, rfl, by
    have e : o.kind = 6 := hk.trans hc
    simp only [Sc.plain, e]
    simp (decide := true) only [if_true, if_false, or_true, true_or, or_false, false_or]
    exact ⟨hc.symm, ho.i, rfl, ho.s, z2, z3⟩⟩
  have plain7 : k = 7 → PlainRes R o (.agg (opC k (i) (n) (.slice none 0 0) (.slice none 0 0) (.slice none 0 0))) R [] := fun hc => ⟨k, i, n, .slice none 0 0, .slice none 0 0, .slice none 0 0, rfl, rfl, rfl, by
    have e : o.kind = 7 := hk.trans hc
    simp only [Sc.plain, e]
    simp (decide := true) only [if_true, if_false, or_true, true_or, or_false, false_or]
    exact ⟨hc.symm, ho.i, ho.n, z1, z2, z3⟩⟩
  have plain8 : k = 8 → PlainRes R o (.agg (opC k (i) (0) (.slice none 0 0) (.slice q2 m2 d2) (.slice none 0 0))) R [] := fun hc => ⟨k, i, 0, .slice none 0 0, .slice q2 m2 d2, .slice none 0 0, rfl, rfl, rfl, by
    have e : o.kind = 8 := hk.trans hc
    simp only [Sc.plain, e]
    simp (decide := true) only [if_true, if_false, or_true, true_or, or_false, false_or]
    exact ⟨hc.symm, ho.i, rfl, z1, ho.b, z3⟩⟩
  have plain10 : k = 10 → PlainRes R o (.agg (opC k (i) (n) (.slice none 0 0) (.slice none 0 0) (.slice q3 m3 d3))) R [] := fun hc => ⟨k, i, n, .slice none 0 0, .slice none 0 0, .slice q3 m3 d3, rfl, rfl, rfl, by
    have e : o.kind = 10 := hk.trans hc
    simp only [Sc.plain, e]
    simp (decide := true) only [if_true, if_false, or_true, true_or, or_false, false_or]
    exact ⟨hc.symm, ho.i, ho.n, z1, z2, ho.d⟩⟩
  have plainE : ¬ k = 1 → ¬ k = 2 → ¬ k = 3 → ¬ k = 4 → ¬ k = 5 → ¬ k = 9 → ¬ k = 6 → ¬ k = 7 → ¬ k = 8 → ¬ k = 10 → PlainRes R o (.agg (opC k 0 0 (.slice none 0 0) (.slice none 0 0) (.slice none 0 0))) R [] := fun n1 n2 n3 n4 n5 n9 n6 n7 n8 n10 => ⟨k, 0, 0, .slice none 0 0, .slice none 0 0, .slice none 0 0, rfl, rfl, rfl, by
    simp only [Sc.plain, hk, n1, n2, n3, n4, n5, n9, n6, n7, n8, n10, if_false, or_self]
    exact ⟨rfl, rfl, rfl, z1, z2, z3⟩⟩
  cbv
  refine ⟨fun b1 h1 => ?_⟩
  cases b1
  rotate_left
  · have hc : k = 1 := h1.1 rfl
    cbv
    rw [← hK]
    exact plain1 hc
  have n1 : ¬ k = 1 := fun h => by cases h1.2 h
  cbv
  refine ⟨fun b2 h2 => ?_⟩
  cases b2
  rotate_left
  · have hc : k = 2 := h2.1 rfl
    cbv
    rw [← hK]
    exact plain2 hc
  have n2 : ¬ k = 2 := fun h => by cases h2.2 h
  cbv
  refine ⟨fun b3 h3 => ?_⟩
  cases b3
  rotate_left
  · have hc : k = 3 := h3.1 rfl
    cbv
    rw [← hK]
    exact plain3 hc
  have n3 : ¬ k = 3 := fun h => by cases h3.2 h
  cbv
  refine ⟨fun b4 h4 => ?_⟩
  cases b4
  rotate_left
  · have hc : k = 4 := h4.1 rfl
    cbv
    rw [← hK]
    exact plain4 hc
  have n4 : ¬ k = 4 := fun h => by cases h4.2 h
  cbv
  refine ⟨fun b5 h5 => ?_⟩
  cases b5
  rotate_left
  · have hc : k = 5 := h5.1 rfl
    cbv
    refine draw_rule hm ?_
    cbv
    refine ⟨.mk _, ?_⟩
    cbv
    rw [← hK]
    exact plain5 hc
  have n5 : ¬ k = 5 := fun h => by cases h5.2 h
  cbv
  refine ⟨fun b9 h9 => ?_⟩
  cases b9
  rotate_left
  · have hc : k = 9 := h9.1 rfl
    cbv
    refine draw_rule hm ?_
    cbv
    refine ⟨.mk _, ?_⟩
    cbv
    rw [← hK]
    exact plain9 hc
  have n9 : ¬ k = 9 := fun h => by cases h9.2 h
  cbv
  refine ⟨fun b6 h6 => ?_⟩
  cases b6
  rotate_left
  · have hc : k = 6 := h6.1 rfl
    cbv
    refine draw_rule hm ?_
    cbv
    refine ⟨.mk _, ?_⟩
    cbv
    rw [← hK]
    exact plain6 hc
  have n6 : ¬ k = 6 := fun h => by cases h6.2 h
  cbv
  refine ⟨fun b7 h7 => ?_⟩
  cases b7
  rotate_left
  · have hc : k = 7 := h7.1 rfl
    cbv
    refine draw_rule hm ?_
    cbv
    refine ⟨.mk _, ?_⟩
    cbv
    rw [← hK]
    exact plain7 hc
  have n7 : ¬ k = 7 := fun h => by cases h7.2 h
  cbv
  refine ⟨fun b8 h8 => ?_⟩
  cases b8
  rotate_left
  · have hc : k = 8 := h8.1 rfl
    cbv
    refine draw_rule hm ?_
    cbv
    refine ⟨.mk _, ?_⟩
    cbv
    rw [← hK]
    exact plain8 hc
  have n8 : ¬ k = 8 := fun h => by cases h8.2 h
  cbv
  refine ⟨fun b10 h10 => ?_⟩
  cases b10
  rotate_left
  · have hc : k = 10 := h10.1 rfl
    cbv
    refine draw_rule hm ?_
    cbv
    refine ⟨.mk _, ?_⟩
    cbv
    refine ⟨.mk _, ?_⟩
    cbv
    refine ⟨.mk _, ?_⟩
    cbv
    rw [← hK]
    exact plain10 hc
  have n10 : ¬ k = 10 := fun h => by cases h10.2 h
  cbv
  rw [← hK]
  exact plainE n1 n2 n3 n4 n5 n9 n6 n7 n8 n10
end Go.Proofs

namespace Go.Proofs
open Go Go.SX
set_option maxRecDepth 100000
theorem intV_get {l : List Int} {j : Nat} {x : Int} (h : l[j]? = some x) : (intV l)[j]? = some (.int .i64 x) := by simp [intV, h]
set_option maxHeartbeats 4000000 in
theorem f39 (l1 l2 : List Int) (v1 v2 : Value) (R : RO) (h1 : ROSl R v1 (intV l1) 1) (h2 : ROSl R v2 (intV l2) 1) (hb : l1.length ≤ 2 ^ 40) (hb2 : l2.length ≤ 2 ^ 40) :
    CallW Tryd.prog 39 [.raw v1, .raw v2] R [] (fun sv R' H' => ∃ b, sv = .raw (.bool b) ∧ R' = R ∧ H' = [] ∧ (b = true ↔ l1 = l2)) := by
  have hm : Tryd.prog.follows .mixedOrders = true := by kernel_rfl
  refine CallW.shrink (vcF_ok Tryd.func39 c39 ?_)
  generalize hK : (fun (sv : SV) (_ : RO) (H' : List SObj) => ∃ b, sv = .raw (.bool b) ∧ R = R ∧ H' = [] ∧ (b = true ↔ l1 = l2)) = K
  revert hm
  generalize Tryd.prog = P
  intro hm
  have no : ¬ l1 = l2 → ∀ Rx, K (.raw (.bool false)) Rx [] := fun h Rx => by rw [← hK]; exact ⟨false, rfl, rfl, rfl, by simp [h]⟩
  have yes : l1 = l2 → ∀ Rx, K (.raw (.bool true)) Rx [] := fun h Rx => by rw [← hK]; exact ⟨true, rfl, rfl, rfl, by simp [h]⟩
  obtain ⟨q1, n1, d1, rfl, hn1, _⟩ := ROSl.shapeV h1
  obtain ⟨q2, n2, d2, rfl, hn2, _⟩ := ROSl.shapeV h2
  have hl1 : n1 = l1.length := by rw [hn1]; simp [intV]
  have hl2 : n2 = l2.length := by rw [hn2]; simp [intV]
  cbv
  refine ⟨fun c1 hc1 => ?_⟩
  have hc1' : c1 = l1.length := by rw [hc1, hl1]; rfl
  cbv
  refine ⟨fun c2 hc2 => ?_⟩
  have hc2' : c2 = l2.length := by rw [hc2, hl2]; rfl
  cbv
  refine ⟨fun b1 g1 => ?_⟩
  cases b1
  rotate_left
  · have hne := g1.1 rfl
    cbv
    exact no (fun e => by rw [e] at hc1'; ((try simp only [nc] at *); omega)) _
  have heq : c1 = c2 := by
    apply Classical.byContradiction
    intro h
    cases g1.2 h
  have hle : l1.length = l2.length := by ((try simp only [nc] at *); omega)
  cbv
  refine ⟨fun c3 hc3 => ?_⟩
  have hc3' : c3 = l1.length := by rw [hc3, hl1]; rfl
  cbv
  refine loop_at (fun s (x : Nat) => { s with tm := s.tm.put 13 (.raw (.int .i64 x)) })
    (fun x => x ≤ l1.length ∧ l1.take x = l2.take x) (fun x => l1.length - x) 0 [] (by cbv; repeat (first | exact trivial | refine ⟨.mk _, ?_⟩)) ⟨by omega, rfl⟩ ?_
  rintro x ⟨hx, hp⟩ K' hK'
  simp only at hx hp hK' ⊢
  obtain ⟨xi, hxi⟩ : ∃ xi : Int, xi = x := ⟨_, rfl⟩
  rw [← hxi]
  cbv
  refine ⟨fun b2 g2 => ?_⟩
  cases b2
  · have hge : ¬ xi < c3 := fun h => by cases g2.2 h
    have hxe : x = l1.length := by ((try simp only [nc] at *); omega)
    cbv
    refine yes ?_ _
    rw [hxe, List.take_length, hle, List.take_length] at hp
    exact hp
  · have hlt : xi < c3 := g2.1 rfl
    have hxl : x < l1.length := by ((try simp only [nc] at *); omega)
    obtain ⟨y1, hy1⟩ : ∃ y, l1[x]? = some y := ⟨_, List.getElem?_eq_getElem hxl⟩
    obtain ⟨y2, hy2⟩ : ∃ y, l2[x]? = some y := ⟨_, List.getElem?_eq_getElem (by omega)⟩
    obtain ⟨k1, o1, rfl⟩ := ROSl.some h1 (by omega)
    obtain ⟨k2, o2, rfl⟩ := ROSl.some h2 (by omega)
    cbv
    refine draw_rule hm ?_
    cbv
    refine ⟨by ((try simp only [nc] at *); omega), by ((try simp only [nc] at *); omega), fun j hj => ?_⟩
    have hjx : j = x := by ((try simp only [nc] at *); omega)
    subst hjx
    refine .mk _ _ _ h1 (intV_get hy1) rfl ?_
    cbv
    refine ⟨by ((try simp only [nc] at *); omega), by ((try simp only [nc] at *); omega), fun j2 hj2 => ?_⟩
    have hjx2 : j2 = j := by ((try simp only [nc] at *); omega)
    subst hjx2
    refine .mk _ _ _ h2 (intV_get hy2) rfl ?_
    cbv
    refine ⟨fun b3 g3 => ?_⟩
    cases b3
    · have he : y1 = y2 := by
        apply Classical.byContradiction
        intro h
        cases g3.2 h
      cbv
      refine ⟨fun c9 hc9 => ?_⟩
      rw [wrap_id (n := xi + 1) (by ((try simp only [nc] at *); omega)) (by ((try simp only [nc] at *); omega))] at hc9
      have hc9' : c9 = ((j2 + 1 : Nat) : Int) := by ((try simp only [nc] at *); omega)
      subst hc9'
      refine hK' _ (j2 + 1) [] (by cbv; repeat (first | exact trivial | refine ⟨.mk _, ?_⟩)) ⟨by ((try simp only [nc] at *); omega), ?_⟩ (by ((try simp only [nc] at *); omega))
      rw [List.take_add_one, List.take_add_one, hp, hy1, hy2, he]
    · have hne := g3.1 rfl
      cbv
      refine no (fun e => hne ?_) _
      rw [e, hy2] at hy1
      cases hy1; rfl
end Go.Proofs

namespace Go.Proofs
open Go Go.SX
set_option maxRecDepth 100000
theorem boolV_get {l : List Bool} {j : Nat} {x : Bool} (h : l[j]? = some x) : (boolV l)[j]? = some (.bool x) := by simp [boolV, h]
set_option maxHeartbeats 4000000 in
theorem f26 (o1 o2 : Sc.Op) (k1 i1 n1 : Int) (s1 b1 d1 : Value) (k2 i2 n2 : Int) (s2 b2 d2 : Value) (R : RO) (h1 : OpR R o1 k1 i1 n1 s1 b1 d1) (h2 : OpR R o2 k2 i2 n2 s2 b2 d2) (g1 : OpI o1) (g2 : OpI o2) :
    CallW Tryd.prog 26 [.agg (opC k1 i1 n1 s1 b1 d1), .agg (opC k2 i2 n2 s2 b2 d2)] R [] (fun sv R' H' => ∃ b, sv = .raw (.bool b) ∧ R' = R ∧ H' = [] ∧ (b = true ↔ o1 = o2)) := by
  have hm : Tryd.prog.follows .mixedOrders = true := by kernel_rfl
  have e39' := e39
  have h39 := f39
  refine CallW.shrink (vcF_ok Tryd.func26 c26 ?_)
  generalize hK : (fun (sv : SV) (_ : RO) (H' : List SObj) => ∃ b, sv = .raw (.bool b) ∧ R = R ∧ H' = [] ∧ (b = true ↔ o1 = o2)) = K
  revert hm e39' h39
  generalize Tryd.prog = P
  intro hm e39' h39
  have no : ¬ o1 = o2 → ∀ Rx, K (.raw (.bool false)) Rx [] := fun h Rx => by rw [← hK]; exact ⟨false, rfl, rfl, rfl, by simp [h]⟩
  have yes : o1 = o2 → ∀ Rx, K (.raw (.bool true)) Rx [] := fun h Rx => by rw [← hK]; exact ⟨true, rfl, rfl, rfl, by simp [h]⟩
  obtain ⟨ka, ia, na, sa, ba, da⟩ := o1
  obtain ⟨kb, ib, nb, sb, bb, db⟩ := o2
  obtain ⟨rk1, ri1, rn1, rs1, rb1, rd1⟩ := h1
  obtain ⟨rk2, ri2, rn2, rs2, rb2, rd2⟩ := h2
  simp only at rk1 ri1 rn1 rs1 rb1 rd1 rk2 ri2 rn2 rs2 rb2 rd2
  subst rk1; subst ri1; subst rn1; subst rk2; subst ri2; subst rn2
  have hls1 := g1.ls; have hls2 := g2.ls; have hlb1 := g1.lb; have hlb2 := g2.lb; have hld1 := g1.ld; have hld2 := g2.ld
  simp only at hls1 hls2 hlb1 hlb2 hld1 hld2
  clear g1 g2
  obtain ⟨q1, m1, e1, rfl, hm1, _⟩ := ROSl.shapeV rs1
  obtain ⟨q2, m2, e2, rfl, hm2, _⟩ := ROSl.shapeV rs2
  obtain ⟨q3, m3, e3, rfl, hm3, _⟩ := ROSl.shapeV rb1
  obtain ⟨q4, m4, e4, rfl, hm4, _⟩ := ROSl.shapeV rb2
  obtain ⟨q5, m5, e5, rfl, hm5, _⟩ := ROSl.shapeV rd1
  obtain ⟨q6, m6, e6, rfl, hm6, _⟩ := ROSl.shapeV rd2
  have hl3 : m3 = ba.length := by rw [hm3]; simp [boolV]
  have hl4 : m4 = bb.length := by rw [hm4]; simp [boolV]
  cbv
  refine ⟨fun c1 t1 => ?_⟩
  cases c1
  rotate_left
  · have hne := t1.1 rfl
    cbv
    exact no (fun h => hne (by cases h; rfl)) _
  have hq1 : ka = kb := Classical.byContradiction fun h => by cases t1.2 h
  cbv
  refine ⟨fun c2 t2 => ?_⟩
  cases c2
  rotate_left
  · have hne := t2.1 rfl
    cbv
    exact no (fun h => hne (by cases h; rfl)) _
  have hq2 : ia = ib := Classical.byContradiction fun h => by cases t2.2 h
  cbv
  refine ⟨fun c3 t3 => ?_⟩
  cases c3
  rotate_left
  · have hne := t3.1 rfl
    cbv
    exact no (fun h => hne (by cases h; rfl)) _
  have hq3 : na = nb := Classical.byContradiction fun h => by cases t3.2 h
  cbv
  refine CallAt.use [] [] [.raw (.slice q1 m1 e1), .raw (.slice q2 m2 e2)] e39' (h39 sa sb _ _ R rs1 rs2 hls1 hls2) rfl rfl rfl rfl ?_
  intro sv R5 H5 hres
  obtain ⟨c4, rfl, hR5, rfl, t4⟩ := hres
  obtain rfl := hR5.symm
  cases c4
  · have hne : ¬ sa = sb := fun h => by cases t4.2 h
    cbv
    exact no (fun h => hne (by cases h; rfl)) _
  have hq4 := t4.1 rfl
  cbv
  obtain ⟨t5, ht5⟩ : ∃ t : ByteArray, t = ⟨da.toArray⟩ := ⟨_, rfl⟩
  obtain ⟨t6, ht6⟩ : ∃ t : ByteArray, t = ⟨db.toArray⟩ := ⟨_, rfl⟩
  have hb5 : byV da = bytesV t5 := by rw [ht5]; simp [byV, bytesV]
  have hb6 : byV db = bytesV t6 := by rw [ht6]; simp [byV, bytesV]
  have h56 : t5 = t6 ↔ da = db := by rw [bstr_eq, ht5, ht6]
  rw [hb5] at rd1
  rw [hb6] at rd2
  refine .mk t5 rd1 ?_
  cbv
  refine .mk t6 rd2 ?_
  cbv
  refine ⟨fun c5 t5' => ?_⟩
  cases c5
  rotate_left
  · have hne := t5'.1 rfl
    cbv
    exact no (fun h => hne (h56.2 (by cases h; rfl))) _
  have hq5 : da = db := h56.1 (Classical.byContradiction fun h => by cases t5'.2 h)
  cbv
  refine ⟨fun z1 hz1 => ?_⟩
  have hz1' : z1 = ba.length := by rw [hz1, hl3]; rfl
  cbv
  refine ⟨fun z2 hz2 => ?_⟩
  have hz2' : z2 = bb.length := by rw [hz2, hl4]; rfl
  cbv
  refine ⟨fun c6 t6' => ?_⟩
  cases c6
  rotate_left
  · have hne := t6'.1 rfl
    cbv
    exact no (fun h => hne (by rw [hz1', hz2']; cases h; rfl)) _
  have hq6 : z1 = z2 := Classical.byContradiction fun h => by cases t6'.2 h
  have hle : ba.length = bb.length := by ((try simp only [nc] at *); omega)
  cbv
  refine ⟨fun z3 hz3 => ?_⟩
  have hz3' : z3 = ba.length := by rw [hz3, hl3]; rfl
  have hmk : ba = bb → (⟨ka, ia, na, sa, ba, da⟩ : Sc.Op) = ⟨kb, ib, nb, sb, bb, db⟩ := fun h => by rw [hq1, hq2, hq3, hq4, hq5, h]
  have hmk' : (⟨ka, ia, na, sa, ba, da⟩ : Sc.Op) = ⟨kb, ib, nb, sb, bb, db⟩ → ba = bb := fun h => by injection h
  cbv
  refine loop_at (fun s (x : Nat) => { s with tm := s.tm.put 54 (.raw (.int .i64 x)) })
    (fun x => x ≤ ba.length ∧ ba.take x = bb.take x) (fun x => ba.length - x) 0 [some 0, some 1] (by cbv; repeat (first | exact trivial | refine ⟨.mk _, ?_⟩)) ⟨by omega, rfl⟩ ?_
  rintro x ⟨hx, hp⟩ K' hK'
  simp only at hx hp hK' ⊢
  obtain ⟨xi, hxi⟩ : ∃ xi : Int, xi = x := ⟨_, rfl⟩
  rw [← hxi]
  cbv
  refine ⟨fun c7 t7 => ?_⟩
  cases c7
  · have hge : ¬ xi < z3 := fun h => by cases t7.2 h
    have hxe : x = ba.length := by ((try simp only [nc] at *); omega)
    cbv
    refine yes (hmk ?_) _
    rw [hxe, List.take_length, hle, List.take_length] at hp
    exact hp
  · have hlt : xi < z3 := t7.1 rfl
    have hxl : x < ba.length := by ((try simp only [nc] at *); omega)
    obtain ⟨y1, hy1⟩ : ∃ y, ba[x]? = some y := ⟨_, List.getElem?_eq_getElem hxl⟩
    obtain ⟨y2, hy2⟩ : ∃ y, bb[x]? = some y := ⟨_, List.getElem?_eq_getElem (by omega)⟩
    obtain ⟨k3, o3, rfl⟩ := ROSl.some rb1 (by omega)
    obtain ⟨k4, o4, rfl⟩ := ROSl.some rb2 (by omega)
    cbv
    refine draw_rule hm ?_
    cbv
    refine ⟨by ((try simp only [nc] at *); omega), by ((try simp only [nc] at *); omega), fun j hj => ?_⟩
    have hjx : j = x := by ((try simp only [nc] at *); omega)
    subst hjx
    refine .mk _ _ _ rb1 (boolV_get hy1) rfl ?_
    cbv
    refine ⟨by ((try simp only [nc] at *); omega), by ((try simp only [nc] at *); omega), fun j2 hj2 => ?_⟩
    have hjx2 : j2 = j := by ((try simp only [nc] at *); omega)
    subst hjx2
    refine .mk _ _ _ rb2 (boolV_get hy2) rfl ?_
    cbv
    refine ⟨fun b3 g3 => ?_⟩
    cases b3
    · have he : y1 = y2 := by
        apply Classical.byContradiction
        intro h
        cases g3.2 h
      cbv
      refine ⟨fun c9 hc9 => ?_⟩
      rw [wrap_id (n := xi + 1) (by ((try simp only [nc] at *); omega)) (by ((try simp only [nc] at *); omega))] at hc9
      have hc9' : c9 = ((j2 + 1 : Nat) : Int) := by ((try simp only [nc] at *); omega)
      subst hc9'
      refine hK' _ (j2 + 1) [some 0, some 1] (by cbv; repeat (first | exact trivial | refine ⟨.mk _, ?_⟩)) ⟨by ((try simp only [nc] at *); omega), ?_⟩ (by ((try simp only [nc] at *); omega))
      rw [List.take_add_one, List.take_add_one, hp, hy1, hy2, he]
    · have hne := g3.1 rfl
      cbv
      refine no (fun e => hne ?_) _
      have e' := hmk' e
      rw [e', hy2] at hy1
      cases hy1; rfl
end Go.Proofs

namespace Go.Proofs
open Go Go.SX
set_option maxRecDepth 100000
theorem CallW.args {P : Program} {f : FuncId} {args args' : List SV} {R : RO} {H : List SObj} {K : SV → RO → List SObj → Prop} (h : CallW P f args R H K) (hc : ∀ T vs, DL T (toSC args') vs → DL T (toSC args) vs) : CallW P f args' R H K :=
  fun c w T vs hr hd hv => h c w T vs hr hd (hc T vs hv)
theorem opRaw {T : List Blk} {k i n : Int} {q1 q2 q3 : Option Addr} {m1 c1 m2 c2 m3 c3 : Nat} {v : Value} (h : DV T (.raw (opA k i n (.slice q1 m1 c1) (.slice q2 m2 c2) (.slice q3 m3 c3))) v) : DV T (.agg (opC k i n (.slice q1 m1 c1) (.slice q2 m2 c2) (.slice q3 m3 c3))) v := by
  obtain rfl := raw_inv h
  exact .agg (.one (.raw _) rfl (.one (.raw _) rfl (.one (.raw _) rfl (.one (.raw _) rfl (.one (.raw _) rfl (.one (.raw _) rfl .nil))))))
theorem f26r {k1 i1 n1 k2 i2 n2 : Int} {q1 q2 q3 q4 q5 q6 : Option Addr} {m1 c1 m2 c2 m3 c3 m4 c4 m5 c5 m6 c6 : Nat} (o1 o2 : Sc.Op) (R : RO) (h1 : OpR R o1 k1 i1 n1 (.slice q1 m1 c1) (.slice q2 m2 c2) (.slice q3 m3 c3)) (h2 : OpR R o2 k2 i2 n2 (.slice q4 m4 c4) (.slice q5 m5 c5) (.slice q6 m6 c6)) (g1 : OpI o1) (g2 : OpI o2) :
    CallW Tryd.prog 26 [.raw (opA k1 i1 n1 (.slice q1 m1 c1) (.slice q2 m2 c2) (.slice q3 m3 c3)), .raw (opA k2 i2 n2 (.slice q4 m4 c4) (.slice q5 m5 c5) (.slice q6 m6 c6))] R [] (fun sv R' H' => ∃ b, sv = .raw (.bool b) ∧ R' = R ∧ H' = [] ∧ (b = true ↔ o1 = o2)) :=
  CallW.args (f26 o1 o2 _ _ _ _ _ _ _ _ _ _ _ _ R h1 h2 g1 g2) fun T vs h => by
    cases h with
    | cons a t => cases t with
      | cons b t => cases t; exact .cons (opRaw a) (.cons (opRaw b) .nil)
set_option maxHeartbeats 4000000 in
theorem f14 (l1 l2 : List Sc.Op) (v1 : Value) (es1 es2 : List Value) (i n m : Nat) (R : RO) (h1 : ROSl R v1 es1 6) (hv1 : OpsV R l1 es1) (hv2 : OpsV R l2 ((es2.drop i).take n)) (hn : n = l2.length) (g1 : ∀ o ∈ l1, OpI o) (g2 : ∀ o ∈ l2, OpI o) (hb : l1.length ≤ 2 ^ 40) (hb2 : l2.length ≤ 2 ^ 40) :
    CallW Tryd.prog 14 [.raw v1, .sl 0 0 i 6 n m] R [.buf es2 6 40] (fun sv R' H' => ∃ b, sv = .raw (.bool b) ∧ R' = R ∧ H' = [.buf es2 6 40] ∧ (b = true ↔ l1 = l2)) := by
  have hm : Tryd.prog.follows .mixedOrders = true := by kernel_rfl
  have e26' := e26
  have h26 := @f26r
  refine CallW.shrink (vcF_ok Tryd.func14 c14 ?_)
  generalize hK : (fun (sv : SV) (_ : RO) (H' : List SObj) => ∃ b, sv = .raw (.bool b) ∧ R = R ∧ H' = [.buf es2 6 40] ∧ (b = true ↔ l1 = l2)) = K
  revert hm e26' h26
  generalize Tryd.prog = P
  intro hm e26' h26
  have no : ¬ l1 = l2 → ∀ Rx, K (.raw (.bool false)) Rx [.buf es2 6 40] := fun h Rx => by rw [← hK]; exact ⟨false, rfl, rfl, rfl, by simp [h]⟩
  have yes : l1 = l2 → ∀ Rx, K (.raw (.bool true)) Rx [.buf es2 6 40] := fun h Rx => by rw [← hK]; exact ⟨true, rfl, rfl, rfl, by simp [h]⟩
  obtain ⟨q1, n1, d1, rfl, hn1, _⟩ := ROSl.shapeV h1
  have hl1 : n1 = l1.length := by rw [hn1, hv1.len]
  cbv
  refine ⟨fun c1 hc1 => ?_⟩
  have hc1' : c1 = l1.length := by rw [hc1, hl1]; rfl
  cbv
  refine ⟨fun c2 hc2 => ?_⟩
  have hc2' : c2 = l2.length := by rw [hc2, hn]; rfl
  cbv
  refine ⟨fun b1 g1' => ?_⟩
  cases b1
  rotate_left
  · have hne := g1'.1 rfl
    cbv
    exact no (fun e => by rw [e] at hc1'; ((try simp only [nc] at *); omega)) _
  have heq : c1 = c2 := Classical.byContradiction fun h => by cases g1'.2 h
  have hle : l1.length = l2.length := by ((try simp only [nc] at *); omega)
  cbv
  refine ⟨fun c3 hc3 => ?_⟩
  have hc3' : c3 = l1.length := by rw [hc3, hl1]; rfl
  cbv
  refine loop_at (fun s (x : Nat) => { s with tm := s.tm.put 13 (.raw (.int .i64 x)) })
    (fun x => x ≤ l1.length ∧ l1.take x = l2.take x) (fun x => l1.length - x) 0 [some 0] (by cbv; repeat (first | exact trivial | refine ⟨.mk _, ?_⟩)) ⟨by omega, rfl⟩ ?_
  rintro x ⟨hx, hp⟩ K' hK'
  simp only at hx hp hK' ⊢
  obtain ⟨xi, hxi⟩ : ∃ xi : Int, xi = x := ⟨_, rfl⟩
  rw [← hxi]
  cbv
  refine ⟨fun b2 g2' => ?_⟩
  cases b2
  · have hge : ¬ xi < c3 := fun h => by cases g2'.2 h
    have hxe : x = l1.length := by ((try simp only [nc] at *); omega)
    cbv
    refine yes ?_ _
    rw [hxe, List.take_length, hle, List.take_length] at hp
    exact hp
  · have hlt : xi < c3 := g2'.1 rfl
    have hxl : x < l1.length := by ((try simp only [nc] at *); omega)
    obtain ⟨o1, ho1⟩ : ∃ y, l1[x]? = some y := ⟨_, List.getElem?_eq_getElem hxl⟩
    obtain ⟨o2, ho2⟩ : ∃ y, l2[x]? = some y := ⟨_, List.getElem?_eq_getElem (by omega)⟩
    obtain ⟨w1, hw1, hov1⟩ := hv1.get ho1
    obtain ⟨w2, hw2, hov2⟩ := hv2.get ho2
    obtain ⟨k0, i0, n0, q1', m1', d1', q2', m2', d2', q3', m3', d3', rfl, hr0⟩ := hov1.shape
    obtain ⟨k4, i4, n4, q4', m4', d4', q5', m5', d5', q6', m6', d6', rfl, hr4⟩ := hov2.shape
    have hw2' : es2[i + x]? = some (opA k4 i4 n4 (.slice q4' m4' d4') (.slice q5' m5' d5') (.slice q6' m6' d6')) := by
      rw [List.getElem?_take] at hw2
      split at hw2
      · rw [List.getElem?_drop] at hw2; exact hw2
      · cases hw2
    obtain ⟨k3, o3, rfl⟩ := ROSl.some h1 (by omega)
    cbv
    refine draw_rule hm ?_
    cbv
    refine ⟨by ((try simp only [nc] at *); omega), by ((try simp only [nc] at *); omega), fun j hj => ?_⟩
    have hjx : j = x := by ((try simp only [nc] at *); omega)
    subst hjx
    refine .mk _ _ _ h1 hw1 rfl ?_
    cbv
    refine ⟨by ((try simp only [nc] at *); omega), by ((try simp only [nc] at *); omega), fun j2 hj2 => ?_⟩
    have hjx2 : j2 = i + j := by ((try simp only [nc] at *); omega)
    rw [← hjx2] at hw2'
    cbv
    refine .mk _ _ hw2' rfl ?_
    cbv
    refine CallAt.use [] [] [.raw (opA k0 i0 n0 (.slice q1' m1' d1') (.slice q2' m2' d2') (.slice q3' m3' d3')), .raw (opA k4 i4 n4 (.slice q4' m4' d4') (.slice q5' m5' d5') (.slice q6' m6' d6'))] e26' (h26 o1 o2 R hr0 hr4 (g1 _ (List.mem_of_getElem? ho1)) (g2 _ (List.mem_of_getElem? ho2))) rfl rfl rfl rfl ?_
    intro sv R5 H5 hres
    obtain ⟨b3, rfl, hR5, rfl, t3⟩ := hres
    obtain rfl := hR5.symm
    cbv
    cases b3
    · have hne : ¬ o1 = o2 := fun h => by cases t3.2 h
      cbv
      refine no (fun e => hne ?_) _
      rw [e, ho2] at ho1
      cases ho1; rfl
    · have he : o1 = o2 := t3.1 rfl
      cbv
      refine ⟨fun c9 hc9 => ?_⟩
      rw [wrap_id (n := xi + 1) (by ((try simp only [nc] at *); omega)) (by ((try simp only [nc] at *); omega))] at hc9
      have hc9' : c9 = ((j + 1 : Nat) : Int) := by ((try simp only [nc] at *); omega)
      subst hc9'
      refine hK' _ (j + 1) [some 0] (by cbv; repeat (first | exact trivial | refine ⟨.mk _, ?_⟩)) ⟨by ((try simp only [nc] at *); omega), ?_⟩ (by ((try simp only [nc] at *); omega))
      rw [List.take_add_one, List.take_add_one, hp, ho1, ho2, he]
end Go.Proofs

namespace Go.Proofs
open Go Go.SX
set_option maxRecDepth 100000
set_option maxHeartbeats 4000000 in
theorem f11 (o : Sc.Op) (k i n : Int) (vs vk vd : Value) (R : RO) (ho : OpR R o k i n vs vk vd) (hoi : OpI o) :
    CallW Tryd.prog 11 [.agg (opC k i n vs vk vd)] R [] (fun sv R' H' => ∃ b, sv = .raw (.bool b) ∧ R' = R ∧ H' = [] ∧ (b = true ↔ Sc.rightP (Sc.plain o))) := by
  have e12' := e12
  have h12 := f12
  refine CallW.shrink (vcF_ok Tryd.func11 c11 ?_)
  generalize hK : (fun (sv : SV) (_ : RO) (H' : List SObj) => ∃ b, sv = .raw (.bool b) ∧ R = R ∧ H' = [] ∧ (b = true ↔ Sc.rightP (Sc.plain o))) = K
  revert e12' h12
  generalize Tryd.prog = P
  intro e12' h12
  have no : ¬ Sc.rightP (Sc.plain o) → ∀ Rx, K (.raw (.bool false)) Rx [] := fun h Rx => by rw [← hK]; exact ⟨false, rfl, rfl, rfl, by simp [h]⟩
  have yes : Sc.rightP (Sc.plain o) → ∀ Rx, K (.raw (.bool true)) Rx [] := fun h Rx => by rw [← hK]; exact ⟨true, rfl, rfl, rfl, by simp [h]⟩
  obtain ⟨q1, m1, e1, rfl, hm1, _⟩ := ROSl.shapeV ho.s
  obtain ⟨q2, m2, e2, rfl, hm2, _⟩ := ROSl.shapeV ho.b
  obtain ⟨q3, m3, e3, rfl, hm3, _⟩ := ROSl.shapeV ho.d
  cbv
  refine CallAt.use [] [] [.agg (opC k i n (.slice q1 m1 e1) (.slice q2 m2 e2) (.slice q3 m3 e3))] e12' (h12 o k i n _ _ _ R ho) rfl rfl rfl rfl ?_
  intro sv R5 H5 hres
  apply W.out
  obtain ⟨k1, i1, n1, vs1, vk1, vd1, rfl, hR5, rfl, hp⟩ := hres
  obtain rfl := hR5.symm
  obtain ⟨p, hpe⟩ : ∃ p, p = Sc.plain o := ⟨_, rfl⟩
  rw [← hpe] at hp no yes
  have hps := hp.s
  have r1 := hp.k
  have r2 := hp.n
  have r3 := hp.i
  have hR : Sc.rightP p ↔ (1 ≤ k1 ∧ k1 ≤ 10 ∧ (0 ≤ n1 ∧ n1 ≤ 999999) ∧ (0 ≤ i1 ∧ i1 ≤ 999999) ∧ p.set.length ≤ 7 ∧ p.keep.length ≤ 64 ∧ ∀ x ∈ p.set, 0 ≤ x ∧ x ≤ 999999) := by
    unfold Sc.rightP Sc.inR
    rw [r1, r2, r3]
  obtain ⟨q4, m4, e4, rfl, hm4, _⟩ := ROSl.shapeV hp.s
  obtain ⟨q5, m5, e5, rfl, hm5, _⟩ := ROSl.shapeV hp.b
  obtain ⟨q6, m6, e6, rfl, hm6, _⟩ := ROSl.shapeV hp.d
  have hl4 : m4 = p.set.length := by rw [hm4]; simp [intV]
  have hl5 : m5 = p.keep.length := by rw [hm5]; simp [boolV]
  refine ⟨?_⟩
  cbv
  refine ⟨fun b1 g1 => ?_⟩
  cases b1
  rotate_left
  · have hbad : k1 < 1 := g1.1 rfl
    cbv
    exact no (fun h => by obtain ⟨a1, a2, a3, a4, _⟩ := hR.1 h; omega) _
  have f1 : ¬ k1 < 1 := fun h => by cases g1.2 h
  cbv
  refine ⟨fun b2 g2 => ?_⟩
  cases b2
  rotate_left
  · have hbad : 10 < k1 := g2.1 rfl
    cbv
    exact no (fun h => by obtain ⟨a1, a2, a3, a4, _⟩ := hR.1 h; omega) _
  have f2 : ¬ 10 < k1 := fun h => by cases g2.2 h
  cbv
  refine ⟨fun b3 g3 => ?_⟩
  cases b3
  rotate_left
  · have hbad : n1 < 0 := g3.1 rfl
    cbv
    exact no (fun h => by obtain ⟨a1, a2, a3, a4, _⟩ := hR.1 h; omega) _
  have f3 : ¬ n1 < 0 := fun h => by cases g3.2 h
  cbv
  refine ⟨fun b4 g4 => ?_⟩
  cases b4
  rotate_left
  · have hbad : 999999 < n1 := g4.1 rfl
    cbv
    exact no (fun h => by obtain ⟨a1, a2, a3, a4, _⟩ := hR.1 h; omega) _
  have f4 : ¬ 999999 < n1 := fun h => by cases g4.2 h
  cbv
  refine ⟨fun b5 g5 => ?_⟩
  cases b5
  rotate_left
  · have hbad : i1 < 0 := g5.1 rfl
    cbv
    exact no (fun h => by obtain ⟨a1, a2, a3, a4, _⟩ := hR.1 h; omega) _
  have f5 : ¬ i1 < 0 := fun h => by cases g5.2 h
  cbv
  refine ⟨fun b6 g6 => ?_⟩
  cases b6
  rotate_left
  · have hbad : 999999 < i1 := g6.1 rfl
    cbv
    exact no (fun h => by obtain ⟨a1, a2, a3, a4, _⟩ := hR.1 h; omega) _
  have f6 : ¬ 999999 < i1 := fun h => by cases g6.2 h
  cbv
  refine ⟨fun c7 hc7 => ?_⟩
  have hc7' : c7 = p.set.length := by rw [hc7, hl4]; rfl
  cbv
  refine ⟨fun b7 g7 => ?_⟩
  cases b7
  rotate_left
  · have hbad : 7 < c7 := g7.1 rfl
    cbv
    exact no (fun h => by obtain ⟨a1, a2, a3, a4, a5, _⟩ := hR.1 h; ((try simp only [nc] at *); omega)) _
  have f7 : ¬ 7 < c7 := fun h => by cases g7.2 h
  cbv
  refine ⟨fun c8 hc8 => ?_⟩
  have hc8' : c8 = p.keep.length := by rw [hc8, hl5]; rfl
  cbv
  refine ⟨fun b8 g8 => ?_⟩
  cases b8
  rotate_left
  · have hbad : 64 < c8 := g8.1 rfl
    cbv
    exact no (fun h => by obtain ⟨a1, a2, a3, a4, a5, a6, _⟩ := hR.1 h; ((try simp only [nc] at *); omega)) _
  have f8 : ¬ 64 < c8 := fun h => by cases g8.2 h
  cbv
  refine ⟨fun c9 hc9 => ?_⟩
  have hc9' : c9 = p.set.length := by rw [hc9, hl4]; rfl
  have hs7 : p.set.length ≤ 7 := by ((try simp only [nc] at *); omega)
  have hk64 : p.keep.length ≤ 64 := by ((try simp only [nc] at *); omega)
  clear hps
  cbv
  refine loop_at (fun s (x : Nat) => { s with tm := s.tm.put 50 (.raw (.int .i64 x)) })
    (fun x => x ≤ p.set.length ∧ ∀ y ∈ p.set.take x, 0 ≤ y ∧ y ≤ 999999) (fun x => p.set.length - x) 0 [some 0] (by cbv; repeat (first | exact trivial | refine ⟨.mk _, ?_⟩)) ⟨by omega, by simp⟩ ?_
  rintro x ⟨hx, hpre⟩ K' hK'
  simp only at hx hpre hK' ⊢
  obtain ⟨xi, hxi⟩ : ∃ xi : Int, xi = x := ⟨_, rfl⟩
  rw [← hxi]
  cbv
  refine ⟨fun b9 g9 => ?_⟩
  cases b9
  · have hge : ¬ xi < c9 := fun h => by cases g9.2 h
    have hxe : x = p.set.length := by ((try simp only [nc] at *); omega)
    cbv
    refine yes (hR.2 ⟨by omega, by omega, ⟨by omega, by omega⟩, ⟨by omega, by omega⟩, hs7, hk64, fun y hy => hpre y ?_⟩) _
    rw [hxe, List.take_length]; exact hy
  · have hlt : xi < c9 := g9.1 rfl
    have hxl : x < p.set.length := by ((try simp only [nc] at *); omega)
    obtain ⟨y1, hy1⟩ : ∃ y, p.set[x]? = some y := ⟨_, List.getElem?_eq_getElem hxl⟩
    obtain ⟨k3, o3, rfl⟩ := ROSl.some hp.s (by omega)
    have hps := hp.s
    cbv
    refine ⟨by ((try simp only [nc] at *); omega), by ((try simp only [nc] at *); omega), fun j hj => ?_⟩
    have hjx : j = x := by ((try simp only [nc] at *); omega)
    subst hjx
    refine .mk _ _ _ hps (intV_get hy1) rfl ?_
    cbv
    refine ⟨fun d1 t1 => ?_⟩
    cases d1
    rotate_left
    · have hbad : y1 < 0 := t1.1 rfl
      cbv
      exact no (fun h => by obtain ⟨_, _, _, _, _, _, a7⟩ := hR.1 h; have := a7 y1 (List.mem_of_getElem? hy1); omega) _
    have t1' : ¬ y1 < 0 := fun h => by cases t1.2 h
    cbv
    refine ⟨fun d2 t2 => ?_⟩
    cases d2
    rotate_left
    · have hbad : 999999 < y1 := t2.1 rfl
      cbv
      exact no (fun h => by obtain ⟨_, _, _, _, _, _, a7⟩ := hR.1 h; have := a7 y1 (List.mem_of_getElem? hy1); omega) _
    have t2' : ¬ 999999 < y1 := fun h => by cases t2.2 h
    cbv
    refine ⟨fun d9 hd9 => ?_⟩
    rw [wrap_id (n := xi + 1) (by ((try simp only [nc] at *); omega)) (by ((try simp only [nc] at *); omega))] at hd9
    have hd9' : d9 = ((j + 1 : Nat) : Int) := by ((try simp only [nc] at *); omega)
    subst hd9'
    refine hK' _ (j + 1) [some 0] (by cbv; repeat (first | exact trivial | refine ⟨.mk _, ?_⟩)) ⟨by ((try simp only [nc] at *); omega), ?_⟩ (by ((try simp only [nc] at *); omega))
    intro y hy
    rw [List.take_add_one, hy1] at hy
    rcases List.mem_append.1 hy with h | h
    · exact hpre y h
    · simp at h; subst h; omega
end Go.Proofs

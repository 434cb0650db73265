/-
  Digits, unpowered, WriteByte, unhexed: what they compute.
-/
import Derived.Test.YtalhhkjdlnamdaaDoorWc
import Derived.Test.YtalhhkjdlnamdaaDoorSi
namespace Go.Proofs
open Go Go.SX
set_option maxRecDepth 100000
/-- a text, and whether it is right; where it isn't, nothing is said of it -/
def StrRes (R : RO) (res : Option Sc.Bs) : SV → RO → List SObj → Prop := fun sv R' H' =>
  ∃ (t : ByteArray) (b : Bool), sv = .tup (.cons 1 (.raw (.string t)) (.cons 1 (.raw (.bool b)) .nil)) ∧ R' = R ∧ H' = [] ∧ b = res.isSome ∧ (∀ x, res = some x → t.data.toList = x)
def I64 (n : Int) : Prop := -9223372036854775808 ≤ n ∧ n ≤ 9223372036854775807
theorem f32 (kit : Kit Tryd.prog) (n : Int) (hn : I64 n) (R : RO) (hgl : Gl R) : CallW Tryd.prog 32 [.raw (.int .i64 n)] R [] (StrRes R (Sc.digitsL n)) := by
  have e47 := kit.e47
  have h47 := kit.h47
  refine vcF_ok Tryd.func32 c32 ?_
  generalize hK : StrRes R (Sc.digitsL n) = K
  revert e47 h47
  clear kit
  generalize Tryd.prog = P
  intro e47 h47
  obtain ⟨s, hs⟩ : ∃ s : ByteArray, s = ⟨(Lib.itoa n).toArray⟩ := ⟨_, rfl⟩
  have hsl : s.data.toList = Lib.itoa n := by rw [hs]
  cbv
  refine CallAt.use [] [] [.raw (.int .i64 n)] e47 (h47 n R hn.1 hn.2 hgl) rfl rfl rfl rfl ?_
  intro sv R' H' hres
  obtain ⟨rfl, rfl, rfl⟩ := hres
  rw [← hs]
  cbv
  refine ⟨fun b1 h1 => ?_⟩
  cases b1
  · have hneg : ¬ 0 ≤ n := fun h => by cases h1.2 h
    cbv
    rw [← hK]
    refine ⟨s, false, rfl, rfl, rfl, ?_, ?_⟩
    · unfold Sc.digitsL; rw [if_neg (fun h => hneg h.1)]; rfl
    · intro x hx; unfold Sc.digitsL at hx; rw [if_neg (fun h => hneg h.1)] at hx; cases hx
  · have hpos : 0 ≤ n := h1.1 rfl
    cbv
    refine ⟨fun b2 h2 => ?_⟩
    have hd : (decide (n ≤ 999999)) = b2 := by rw [Bool.eq_iff_iff]; simp only [decide_eq_true_eq]; exact h2.symm
    cbv
    rw [← hK]
    refine ⟨s, b2, rfl, rfl, rfl, ?_, ?_⟩
    · unfold Sc.digitsL
      by_cases hle : n ≤ 999999
      · rw [if_pos ⟨hpos, hle⟩]; exact h2.2 hle
      · rw [if_neg (fun h => hle h.2)]
        cases b2
        · rfl
        · exact absurd (h2.1 rfl) hle
    · intro x hx
      unfold Sc.digitsL at hx
      split at hx
      · cases hx; exact hsl
      · cases hx

set_option maxHeartbeats 1000000 in
theorem f35 (l : List Bool) (v : Value) (R : RO) (hr : ROSl R v (boolV l) 1) (hbig : l.length ≤ 2 ^ 40) : CallW Tryd.prog 35 [.raw v] R [] (fun sv R' H' => ∃ t : ByteArray, sv = .raw (.string t) ∧ R' = R ∧ H' = [] ∧ (l.length ≤ 64 → t.data.toList = Sc.unbitL l)) := by
  refine vcF_ok Tryd.func35 c35 ?_
  generalize hK : (fun (sv : SV) (R' : RO) (H' : List SObj) => ∃ t : ByteArray, sv = .raw (.string t) ∧ R' = R ∧ H' = [] ∧ (l.length ≤ 64 → t.data.toList = Sc.unbitL l)) = K
  generalize Tryd.prog = P
  obtain ⟨q, n, cap, rfl, hn, hcap⟩ := ROSl.shapeV hr
  have hnl : n = l.length := by rw [hn]; simp [boolV]
  cbv
  refine ⟨fun c1 hc1 => ?_⟩
  have hc1' : c1 = l.length := by rw [hc1, hnl]; rfl
  cbv
  refine ⟨fun b1 h1 => ?_⟩
  cases b1
  · have hne : ¬ c1 = 0 := fun h => by cases h1.2 h
    cbv
    refine ⟨fun c2 hc2 => ?_⟩
    have hc2' : c2 = l.length := by rw [hc2, hnl]; rfl
    cbv
    refine ⟨fun c3 hc3 => ?_⟩
    cbv
    refine ⟨by ((try simp only [nc] at *); omega), ⟨⟨by ((try simp only [nc] at *); omega), by ((try simp only [nc] at *); omega)⟩, ⟨fun hi hhi => ⟨fun v2 hv2 => ?_⟩⟩⟩⟩
    have hhi' : hi = min l.length 64 := by ((try simp only [nc] at *); omega)
    have hr2 := hr.sub (hi := hi) (Nat.le_refl _) (by rw [← hn]; omega) hv2
    obtain ⟨q2, n2, cap2, rfl, hn2, hcap2⟩ := ROSl.shapeV hr2
    have hes2 : ((boolV l).drop 0).take (hi - 0) = boolV (l.take hi) := by simp [boolV, List.map_take]
    rw [hes2] at hr2 hn2
    have hn2' : n2 = hi := by rw [hn2]; simp [boolV]; omega
    obtain ⟨k2, o2, cap3, hsh, _⟩ := hr2.shapeN (by intro e; rw [e] at hn2; simp only [List.length_nil] at hn2; ((try simp only [nc] at *); omega))
    simp only [Value.slice.injEq] at hsh
    obtain ⟨rfl, _, _⟩ := hsh
    cbv
    refine ⟨fun c4 hc4 => ?_⟩
    have hc4' : c4 = hi := by rw [hc4, hn2']; rfl
    cbv
    refine loop_at (fun s (x : Nat × ByteArray) => { s with tm := (s.tm.put 15 (.raw (.int .i64 x.1))).put 3 (.raw (.string x.2)) })
      (fun x => x.1 ≤ hi ∧ x.2.data.toList = (l.take x.1).map fun b => if b then 49 else 48)
      (fun x => hi - x.1) (0, ⟨#[]⟩) [] (by cbv; repeat (first | exact trivial | refine ⟨.mk _, ?_⟩)) ⟨by omega, by simp⟩ ?_
    rintro ⟨i, t⟩ ⟨hi1, ht⟩ K' hK'
    simp only at hi1 ht hK' ⊢
    obtain ⟨ii, hii⟩ : ∃ ii : Int, ii = i := ⟨_, rfl⟩
    rw [← hii]
    have htl : t.size = i := by rw [bsize, ht]; simp; omega
    cbv
    refine ⟨fun b2 h2 => ?_⟩
    cases b2
    · have hge : ¬ ii < c4 := fun h => by cases h2.2 h
      have hieq : i = hi := by ((try simp only [nc] at *); omega)
      cbv
      rw [← hK]
      refine ⟨t, rfl, rfl, rfl, fun h64 => ?_⟩
      rw [ht, hieq, hhi', Nat.min_eq_left h64, List.take_length]
      unfold Sc.unbitL
      rw [if_neg]
      intro e; rw [e] at hc1'; exact hne hc1'
    · have hlt : ii < c4 := h2.1 rfl
      have hil : i < l.length := by ((try simp only [nc] at *); omega)
      obtain ⟨x, hx⟩ : ∃ x, l[i]? = some x := ⟨_, List.getElem?_eq_getElem hil⟩
      have htk : l.take (i + 1) = l.take i ++ [x] := by rw [List.take_add_one, hx]; rfl
      cbv
      refine ⟨by ((try simp only [nc] at *); omega), by ((try simp only [nc] at *); omega), fun j hj => ?_⟩
      have hji : j = i := by ((try simp only [nc] at *); omega)
      refine LdP.at hr2 (Value.bool x) (by rw [hji]; simp only [boolV, List.getElem?_map, List.getElem?_take_of_lt (show i < hi by ((try simp only [nc] at *); omega)), hx, Option.map_some]) ?_
      cbv
      cases x
      · cbv
        refine ⟨by show t.size + 1 ≤ 2 ^ 62; omega, ⟨fun t2 ht2 => ?_⟩⟩
        cbv
        refine ⟨fun c5 hc5 => ?_⟩
        rw [wrap_id (n := ii + 1) (by ((try simp only [nc] at *); omega)) (by ((try simp only [nc] at *); omega))] at hc5
        have hc5' : c5 = ((i + 1 : Nat) : Int) := by ((try simp only [nc] at *); omega)
        subst hc5'
        refine hK' _ (i + 1, t2) [] (by cbv; repeat (first | exact trivial | refine ⟨.mk _, ?_⟩)) ⟨by ((try simp only [nc] at *); omega), ?_⟩ (by ((try simp only [nc] at *); omega))
        rw [ht2, htk]
        simp [ht]
      · cbv
        refine ⟨by show t.size + 1 ≤ 2 ^ 62; omega, ⟨fun t2 ht2 => ?_⟩⟩
        cbv
        refine ⟨fun c5 hc5 => ?_⟩
        rw [wrap_id (n := ii + 1) (by ((try simp only [nc] at *); omega)) (by ((try simp only [nc] at *); omega))] at hc5
        have hc5' : c5 = ((i + 1 : Nat) : Int) := by ((try simp only [nc] at *); omega)
        subst hc5'
        refine hK' _ (i + 1, t2) [] (by cbv; repeat (first | exact trivial | refine ⟨.mk _, ?_⟩)) ⟨by ((try simp only [nc] at *); omega), ?_⟩ (by ((try simp only [nc] at *); omega))
        rw [ht2, htk]
        simp [ht]
  · have hz : c1 = 0 := h1.1 rfl
    have hl0 : l = [] := List.length_eq_zero_iff.1 (by ((try simp only [nc] at *); omega))
    cbv
    rw [← hK]
    exact ⟨⟨#[45]⟩, rfl, rfl, rfl, fun _ => by rw [hl0]; rfl⟩
end Go.Proofs

namespace Go.Proofs
open Go Go.SX
set_option maxRecDepth 100000
set_option maxHeartbeats 2000000 in
theorem f34 (kit : Kit Tryd.prog) (l : List Int) (v : Value) (R : RO) (hr : ROSl R v (intV l) 1) (hi64 : ∀ n ∈ l, I64 n) (hgl : Gl R) (hbig : l.length ≤ 2 ^ 40) : CallW Tryd.prog 34 [.raw v] R [] (StrRes R (Sc.unpowL l)) := by
  have e49 := kit.e49
  have h49 := kit.h49
  have e32' := e32
  have h32 := f32 kit
  refine CallW.shrink (vcF_ok Tryd.func34 c34 ?_)
  generalize hK : (fun (sv : SV) (_ : RO) (H' : List SObj) => StrRes R (Sc.unpowL l) sv R H') = K
  revert e49 h49 e32' h32
  clear kit
  generalize Tryd.prog = P
  intro e49 h49 e32' h32
  obtain ⟨q, n, cap, rfl, hn, hcap⟩ := ROSl.shapeV hr
  have hnl : n = l.length := by rw [hn]; simp [intV]
  cbv
  refine ⟨fun c1 hc1 => ?_⟩
  have hc1' : c1 = l.length := by rw [hc1, hnl]; rfl
  cbv
  refine ⟨fun b1 h1 => ?_⟩
  cases b1
  · have hne : ¬ c1 = 0 := fun h => by cases h1.2 h
    cbv
    refine ⟨fun c2 hc2 => ?_⟩
    have hc2' : c2 = l.length := by rw [hc2, hnl]; rfl
    cbv
    refine ⟨fun b2 h2 => ?_⟩
    cases b2
    · have hle : ¬ 7 < c2 := fun h => by cases h2.2 h
      have hl7 : l.length ≤ 7 := by ((try simp only [nc] at *); omega)
      have hlne : l ≠ [] := fun e => by rw [e] at hc1'; exact hne hc1'
      have hpow : Sc.unpowL l = (Sc.allL Sc.digitsL l).map (Lib.join · [44]) := by unfold Sc.unpowL; rw [if_neg hlne, if_neg (by omega)]
      obtain ⟨k2, o2, cap3, hsh, _⟩ := hr.shapeN (by intro e; rw [e] at hn; simp only [List.length_nil] at hn; ((try simp only [nc] at *); omega))
      simp only [Value.slice.injEq] at hsh
      obtain ⟨rfl, _, _⟩ := hsh
      cbv
      refine ⟨fun c4 hc4 => ?_⟩
      have hc4' : c4 = l.length := by rw [hc4, hnl]; rfl
      cbv
      refine loop_at (fun s (x : Nat × List Value × Nat × Nat) => { s with tm := (s.tm.put 17 (.raw (.int .i64 x.1))).put 4 (.sl 0 0 0 1 x.2.2.1 x.2.2.2), heap := hpush s.heap (.buf x.2.1 1 9) })
        (fun x => x.1 ≤ l.length ∧ x.2.2.1 = x.2.1.length ∧ ∃ ws : List ByteArray, x.2.1 = strV ws ∧ Sc.allL Sc.digitsL l = (Sc.allL Sc.digitsL (l.drop x.1)).map ((ws.map fun (w : ByteArray) => w.data.toList) ++ ·) ∧ ws.length = x.1 ∧ ∀ w ∈ ws, w.size ≤ 6)
        (fun x => l.length - x.1) (0, [], 0, 0) [none] (by cbv; repeat (first | exact trivial | refine ⟨.mk _, ?_⟩)) ⟨by omega, rfl, [], rfl, by simp, rfl, by simp⟩ ?_
      rintro ⟨i, es, n3, m3⟩ ⟨hi1, hn3, ws, hes, hall, hwl, hw6⟩ K' hK'
      simp only at hi1 hn3 hes hall hwl hw6 hK' ⊢
      obtain ⟨ii, hii⟩ : ∃ ii : Int, ii = i := ⟨_, rfl⟩
      rw [← hii]
      have hel : es.length = i := by rw [hes, ← hwl]; simp [strV]
      cbv
      refine ⟨fun b3 h3 => ?_⟩
      cases b3
      · have hge : ¬ ii < c4 := fun h => by cases h3.2 h
        have hieq : i = l.length := by ((try simp only [nc] at *); omega)
        rw [hieq, List.drop_length] at hall
        simp only [Sc.allL, Option.map_some, List.append_nil] at hall
        have hjl : (Lib.join (ws.map fun (w : ByteArray) => w.data.toList) [44]).length ≤ 2 ^ 30 := by
          have := Sc.join_len6 (m := ws.map fun (w : ByteArray) => w.data.toList) (fun w hw => by
            rw [List.mem_map] at hw
            obtain ⟨x, hx, rfl⟩ := hw
            have := hw6 x hx
            rwa [bsize] at this)
          rw [List.length_map] at this
          omega
        obtain ⟨s, hs⟩ : ∃ s : ByteArray, s = ⟨(Lib.join (ws.map fun (w : ByteArray) => w.data.toList) [44]).toArray⟩ := ⟨_, rfl⟩
        have hsl : s.data.toList = Lib.join (ws.map fun (w : ByteArray) => w.data.toList) [44] := by rw [hs]
        cbv
        refine .mk e49 (CallW.frz1 es rfl (by simp [hn3]) hn3.symm fun R2 q2 hs2 hr2 => ?_)
        rw [hes] at hr2
        refine frame [] [] [.raw (.slice q2 n3 m3), .raw (.string ⟨#[44]⟩)] (h49 _ ws R2 hr2 hjl (by omega)) rfl rfl rfl rfl ?_
        intro sv R' H' hres
        obtain ⟨rfl, rfl, rfl⟩ := hres
        rw [← hs]
        cbv
        rw [← hK]
        refine ⟨s, true, rfl, rfl, rfl, by rw [hpow, hall]; rfl, fun x hx => ?_⟩
        rw [hpow, hall] at hx
        cases hx
        exact hsl
      · have hlt : ii < c4 := h3.1 rfl
        have hil : i < l.length := by ((try simp only [nc] at *); omega)
        obtain ⟨x, hx⟩ : ∃ x, l[i]? = some x := ⟨_, List.getElem?_eq_getElem hil⟩
        have hdr : l.drop i = x :: l.drop (i + 1) := by
          have g := List.getElem?_eq_some_iff.1 hx
          rw [List.drop_eq_getElem_cons g.1, g.2]
        cbv
        refine ⟨by ((try simp only [nc] at *); omega), by ((try simp only [nc] at *); omega), fun j hj => ?_⟩
        have hji : j = i := by ((try simp only [nc] at *); omega)
        refine LdP.at hr (Value.int .i64 x) (by rw [hji]; simp [intV, hx]) ?_
        cbv
        refine CallAt.use [] [] [.raw (.int .i64 x)] e32' (h32 x (hi64 x (List.mem_of_getElem? hx)) R hgl) rfl rfl rfl rfl ?_
        intro sv R' H' hres
        unfold StrRes at hres
        obtain ⟨t, b4, rfl, rfl, rfl, hb4, ht⟩ := hres
        cases b4
        · cbv
          rw [← hK]
          have hnone : Sc.unpowL l = none := by
            rw [hpow, hall, hdr]
            simp [Sc.allL, isS_f hb4]
          refine ⟨⟨#[]⟩, false, rfl, rfl, rfl, by rw [hnone]; rfl, fun x hx => by rw [hnone] at hx; cases hx⟩
        · cbv
          refine ⟨_, rfl, rfl, ?_⟩
          cbv
          refine ⟨hn3, ?_⟩
          refine ⟨by simp; ((try simp only [nc] at *); omega), fun es2 n2 m2 he hn2 hm2 => ?_⟩
          cbv
          refine ⟨fun c5 hc5 => ?_⟩
          rw [wrap_id (n := ii + 1) (by ((try simp only [nc] at *); omega)) (by ((try simp only [nc] at *); omega))] at hc5
          have hc5' : c5 = ((i + 1 : Nat) : Int) := by ((try simp only [nc] at *); omega)
          subst hc5'
          obtain ⟨y, hy⟩ := isS_t hb4
          have hty := ht y hy
          refine hK' _ (i + 1, es2, n2, m2) [some 2] (by cbv; repeat (first | exact trivial | refine ⟨.mk _, ?_⟩)) ⟨by ((try simp only [nc] at *); omega), hn2, ws ++ [t], ?_, ?_, ?_, ?_⟩ (by ((try simp only [nc] at *); omega))
          · rw [he, hes]; simp [strV]
          · rw [hall, hdr]
            simp only [Sc.allL, hy, Option.bind_some, Option.map_map]
            congr 1
            funext z
            simp [hty]
          · simp [hwl]
          · intro w hw
            rcases List.mem_append.1 hw with hw | hw
            · exact hw6 w hw
            · simp only [List.mem_singleton] at hw
              subst hw
              rw [bsize, hty]
              exact (Sc.digits_mem hy).2.1
    · have hle : 7 < c2 := h2.1 rfl
      cbv
      rw [← hK]
      have hnone : Sc.unpowL l = none := by
        unfold Sc.unpowL; rw [if_neg (fun e => by rw [e] at hc1'; exact hne hc1'), if_pos (by ((try simp only [nc] at *); omega))]
      refine ⟨⟨#[]⟩, false, rfl, rfl, rfl, by rw [hnone]; rfl, fun x hx => by rw [hnone] at hx; cases hx⟩
  · have hz : c1 = 0 := h1.1 rfl
    have hl0 : l = [] := List.length_eq_zero_iff.1 (by ((try simp only [nc] at *); omega))
    cbv
    rw [← hK]
    refine ⟨⟨#[45]⟩, true, rfl, rfl, rfl, by rw [hl0]; rfl, fun x hx => by rw [hl0] at hx; cases hx; rfl⟩
end Go.Proofs

namespace Go.Proofs
open Go Go.SX
set_option maxRecDepth 100000
def bldF : SObj := .cells (.cons 1 (.raw (.pointer none)) (.cons 1 (.raw (.slice none 0 0)) .nil)) 63
theorem f48f (kit : Kit Tryd.prog) (c : Int) (R : RO) : CallW Tryd.prog 48 [.ptr 0 0, .raw (.int .u8 c)] R [.cells (.cons 1 (.raw (.pointer none)) (.cons 1 (.raw (.slice none 0 0)) .nil)) 63]
    (fun sv R' H' => ∃ es n m, sv = .raw .nilIface ∧ R' = R ∧ es = [Value.int .u8 c] ∧ n = es.length ∧ n ≤ m ∧ H' = [.cells (.cons 1 (.ptr 0 0) (.cons 1 (.sl 2 0 0 1 n m) .nil)) 63, .buf [.int .u8 c] 1 5, .buf es 1 5]) := by
  have e36 := kit.e36
  have h36 := kit.h36f
  refine vcF_ok Tryd.func48 c48 ?_
  generalize hK : (fun (sv : SV) (R' : RO) (H' : List SObj) => ∃ es n m, sv = .raw .nilIface ∧ R' = R ∧ es = [Value.int .u8 c] ∧ n = es.length ∧ n ≤ m ∧ H' = [.cells (.cons 1 (.ptr 0 0) (.cons 1 (.sl 2 0 0 1 n m) .nil)) 63, .buf [.int .u8 c] 1 5, .buf es 1 5]) = K
  revert e36 h36
  clear kit
  generalize Tryd.prog = P
  intro e36 h36
  cbv
  refine CallAt.use [0] [_] [.ptr 0 0] e36 (h36 R) rfl rfl rfl rfl ?_
  intro sv R' H' hres
  obtain ⟨rfl, rfl, rfl⟩ := hres
  cbv
  refine ⟨_, rfl, rfl, ?_⟩
  cbv
  refine ⟨by simp, fun es n m he hn hm => ?_⟩
  cbv
  rw [← hK]
  exact ⟨es, n, m, rfl, rfl, he, hn, hm, rfl⟩
theorem f48u (kit : Kit Tryd.prog) (c : Int) (R : RO) (es0 : List Value) (n0 m0 : Nat) (hn0 : n0 = es0.length) (hbig : es0.length ≤ 2 ^ 40) :
    CallW Tryd.prog 48 [.ptr 0 0, .raw (.int .u8 c)] R [.cells (.cons 1 (.ptr 0 0) (.cons 1 (.sl 1 0 0 1 n0 m0) .nil)) 63, .buf es0 1 5]
    (fun sv R' H' => ∃ es n m, sv = .raw .nilIface ∧ R' = R ∧ es = es0 ++ [Value.int .u8 c] ∧ n = es.length ∧ n ≤ m ∧ H' = [.cells (.cons 1 (.ptr 0 0) (.cons 1 (.sl 3 0 0 1 n m) .nil)) 63, .dead, .buf [.int .u8 c] 1 5, .buf es 1 5]) := by
  have e36 := kit.e36
  have h36 := kit.h36u
  refine vcF_ok Tryd.func48 c48 ?_
  generalize hK : (fun (sv : SV) (R' : RO) (H' : List SObj) => ∃ es n m, sv = .raw .nilIface ∧ R' = R ∧ es = es0 ++ [Value.int .u8 c] ∧ n = es.length ∧ n ≤ m ∧ H' = [.cells (.cons 1 (.ptr 0 0) (.cons 1 (.sl 3 0 0 1 n m) .nil)) 63, .dead, .buf [.int .u8 c] 1 5, .buf es 1 5]) = K
  revert e36 h36
  clear kit
  generalize Tryd.prog = P
  intro e36 h36
  cbv
  refine CallAt.use [0, 1] [.cells (.cons 1 (.ptr 0 0) (.cons 1 (.sl 1 0 0 1 n0 m0) .nil)) 63, .buf es0 1 5] [.ptr 0 0] e36 (h36 R (.sl 1 0 0 1 n0 m0) [.buf es0 1 5]) rfl rfl rfl rfl ?_
  intro sv R' H' hres
  obtain ⟨rfl, rfl, rfl⟩ := hres
  cbv
  refine ⟨_, rfl, rfl, ?_⟩
  cbv
  refine ⟨hn0, ?_⟩
  refine ⟨by simp; ((try simp only [nc] at *); omega), fun es n m he hn hm => ?_⟩
  cbv
  rw [← hK]
  exact ⟨es, n, m, rfl, rfl, he, hn, hm, rfl⟩
end Go.Proofs

namespace Go.Proofs
open Go Go.SX
set_option maxRecDepth 100000
theorem hexes_get : ∀ x, x < 16 → Sc.hexes[x]? = some (Sc.hexc x) := by decide
theorem and15 : ∀ x : Nat, x < 256 → bitsV .and .u8 (x : Int) 15 = ((x % 16 : Nat) : Int) := by decide
theorem hexStep {y1 : Int} {a : Nat} (h : y1 = (a : Int)) (ha : a < 16) {K : Int → Prop} (hK : ∀ n, n = zN (Sc.hexc a).toNat → K n) :
    Ix 0 y1 (fun _ => (⟨⟨[48, 49, 50, 51, 52, 53, 54, 55, 56, 57, 97, 98, 99, 100, 101, 102]⟩⟩ : ByteArray).size) fun j => By ⟨⟨[48, 49, 50, 51, 52, 53, 54, 55, 56, 57, 97, 98, 99, 100, 101, 102]⟩⟩ j K := by
  refine ⟨by omega, ?_, fun j hj => ⟨fun c n hc hn => ?_⟩⟩
  · show y1 < ((16 : Nat) : Int); omega
  · have hj' : j = a := by omega
    subst hj'
    have := hexes_get j ha
    have hc' : Sc.hexes[j]? = some c := by simpa [Sc.hexes] using hc
    rw [this] at hc'
    cases hc'
    exact hK n hn
theorem zN_hex {c : UInt8} {n : Int} (h : n = zN c.toNat) : Value.int .u8 n = Value.int .u8 (c.toNat : Int) := by rw [h]; rfl
set_option maxHeartbeats 4000000 in
theorem f33 (kit : Kit Tryd.prog) (l : Sc.Bs) (v : Value) (R : RO) (hr : ROSl R v (byV l) 1) (hbig : l.length ≤ 2 ^ 40) : CallW Tryd.prog 33 [.raw v] R [] (fun sv R' H' => ∃ t : ByteArray, sv = .raw (.string t) ∧ R' = R ∧ H' = [] ∧ (l.length ≤ 65535 → t.data.toList = Sc.unhexL l)) := by
  have e48' := e48
  have e24 := kit.e24
  have h48f := f48f kit
  have h48u := f48u kit
  have h24 := kit.h24u
  refine vcF_ok Tryd.func33 c33 ?_
  generalize hK : (fun (sv : SV) (R' : RO) (H' : List SObj) => ∃ t : ByteArray, sv = .raw (.string t) ∧ R' = R ∧ H' = [] ∧ (l.length ≤ 65535 → t.data.toList = Sc.unhexL l)) = K
  revert e48' e24 h48f h48u h24
  clear kit
  generalize Tryd.prog = P
  intro e48' e24 h48f h48u h24
  obtain ⟨q, n, cap, rfl, hn, hcap⟩ := ROSl.shapeV hr
  have hnl : n = l.length := by rw [hn]; simp [byV]
  cbv
  refine ⟨fun c1 hc1 => ?_⟩
  have hc1' : c1 = l.length := by rw [hc1, hnl]; rfl
  cbv
  refine ⟨fun b1 h1 => ?_⟩
  cases b1
  · have hne : ¬ c1 = 0 := fun h => by cases h1.2 h
    have hl0 : l ≠ [] := fun e => by rw [e] at hc1'; exact hne hc1'
    cbv
    refine ⟨fun c2 hc2 => ?_⟩
    have hc2' : c2 = l.length := by rw [hc2, hnl]; rfl
    cbv
    refine ⟨fun c3 hc3 => ?_⟩
    cbv
    refine ⟨by ((try simp only [nc] at *); omega), ⟨⟨by ((try simp only [nc] at *); omega), by ((try simp only [nc] at *); omega)⟩, ⟨fun hi hhi => ⟨fun v2 hv2 => ?_⟩⟩⟩⟩
    have hhi' : hi = min l.length 65535 := by ((try simp only [nc] at *); omega)
    have hr2 := hr.sub (hi := hi) (Nat.le_refl _) (by rw [← hn]; omega) hv2
    obtain ⟨q2, n2, cap2, rfl, hn2, hcap2⟩ := ROSl.shapeV hr2
    have hes2 : ((byV l).drop 0).take (hi - 0) = byV (l.take hi) := by simp [byV, List.map_take]
    rw [hes2] at hr2 hn2
    have hn2' : n2 = hi := by rw [hn2]; simp [byV]; omega
    obtain ⟨k2, o2, cap3, hsh, _⟩ := hr2.shapeN (by intro e; rw [e] at hn2; simp only [List.length_nil] at hn2; ((try simp only [nc] at *); omega))
    simp only [Value.slice.injEq] at hsh
    obtain ⟨rfl, _, _⟩ := hsh
    cbv
    refine ⟨fun c4 hc4 => ?_⟩
    have hc4' : c4 = hi := by rw [hc4, hn2']; rfl
    have hipos : 0 < hi := by ((try simp only [nc] at *); omega)
    cbv
    refine loop_at (fun s (x : Nat × List Value × Nat × Nat) => match x.1 with
        | 0 => s
        | i + 1 => { s with tm := s.tm.put 15 (.raw (.int .i64 (zN (i + 1)))), heap := [.cells (.cons 1 (.ptr 0 0) (.cons 1 (.sl 1 0 0 1 x.2.2.1 x.2.2.2) .nil)) 63, .buf x.2.1 1 5] })
      (fun x => x.1 ≤ hi ∧ (x.1 ≠ 0 → x.2.2.1 = x.2.1.length ∧ x.2.2.1 ≤ x.2.2.2 ∧ x.2.1 = byV ((l.take x.1).flatMap fun c => [Sc.hexc (c.toNat / 16), Sc.hexc (c.toNat % 16)])))
      (fun x => hi - x.1) (0, [], 0, 0) [some 0] (by cbv; repeat (first | exact trivial | refine ⟨.mk _, ?_⟩)) ⟨by omega, fun h => absurd rfl h⟩ ?_
    rintro ⟨i, es, n3, m3⟩ ⟨hi1, hin⟩ K' hK'
    simp only at hi1 hin
    cases i with
    | zero =>
      simp only at hK' ⊢
      obtain ⟨x, hx⟩ : ∃ x, l[0]? = some x := ⟨_, List.getElem?_eq_getElem (by omega)⟩
      have htk : l.take 1 = [x] := by rw [show (1 : Nat) = 0 + 1 from rfl, List.take_add_one, hx]; rfl
      have hxl := x.toNat_lt
      cbv
      refine ⟨fun b2 h2 => ?_⟩
      have hb2 : b2 = true := h2.2 (by ((try simp only [nc] at *); omega))
      subst hb2
      cbv
      refine ⟨by ((try simp only [nc] at *); omega), by ((try simp only [nc] at *); omega), fun j hj => ?_⟩
      obtain ⟨y, hy⟩ : ∃ y : Int, y = zN x.toNat := ⟨_, rfl⟩
      have hy' : y = (x.toNat : Int) := hy
      refine LdP.at hr2 (Value.int .u8 y) (by rw [hj, hy]; simp [byV, hx, hipos]; rfl) ?_
      cbv
      refine ⟨by decide, ⟨fun y1 hy1 => ?_⟩⟩
      have hy1' : y1 = ((x.toNat / 16 : Nat) : Int) := by rw [hy1, hy', Int.fdiv_eq_ediv_of_nonneg _ (by decide)]; rfl
      cbv
      refine hexStep hy1' (by omega) fun p1 hp1 => ?_
      cbv
      refine CallAt.use [0] [.cells (.cons 1 (.raw (.pointer none)) (.cons 1 (.raw (.slice none 0 0)) .nil)) 63] [.ptr 0 0, .raw (.int .u8 p1)] e48' (h48f p1 R) rfl rfl rfl rfl ?_
      intro sv R' H' hres
      obtain ⟨es1, n4, m4, rfl, rfl, he1, hn4, hm4, rfl⟩ := hres
      have hl1 : es1.length = 1 := by rw [he1]; rfl
      cbv
      refine ⟨fun y2 hy2 => ?_⟩
      have hy2' : y2 = ((x.toNat % 16 : Nat) : Int) := by rw [hy2, hy']; exact and15 _ hxl
      cbv
      refine hexStep hy2' (by omega) fun p2 hp2 => ?_
      cbv
      refine CallAt.use [0, 2] [.cells (.cons 1 (.ptr 0 0) (.cons 1 (.sl 1 0 0 1 n4 m4) .nil)) 63, .buf es1 1 5] [.ptr 0 0, .raw (.int .u8 p2)] e48' (h48u p2 R' es1 n4 m4 hn4 (by omega)) rfl rfl rfl rfl ?_
      intro sv R2 H2 hres
      obtain ⟨es2, n5, m5, rfl, rfl, he2, hn5, hm5, rfl⟩ := hres
      cbv
      refine ⟨fun c5 hc5 => ?_⟩
      have hc5' : c5 = zN (0 + 1) := hc5
      subst hc5'
      refine hK' _ (0 + 1, es2, n5, m5) [some 0, some 4] (by cbv; repeat (first | exact trivial | refine ⟨.mk _, ?_⟩)) ⟨by omega, fun _ => ⟨hn5, hm5, ?_⟩⟩ (by ((try simp only [nc] at *); omega))
      rw [he2, he1, htk, zN_hex hp1, zN_hex hp2]
      rfl
    | succ i =>
      obtain ⟨hn3, hm3, hes⟩ := hin (by omega)
      simp only at hK' ⊢
      obtain ⟨ii, hii⟩ : ∃ ii : Int, ii = zN (i + 1) := ⟨_, rfl⟩
      rw [← hii]
      have hii' : ii = ((i + 1 : Nat) : Int) := hii
      have hel : es.length = 2 * (i + 1) := by
        rw [hes]; simp only [byV, List.length_map]; rw [Sc.flat_len, List.length_take]; omega
      cbv
      refine ⟨fun b2 h2 => ?_⟩
      cases b2
      · have hge : ¬ ii < c4 := fun h => by cases h2.2 h
        have hieq : i + 1 = hi := by ((try simp only [nc] at *); omega)
        obtain ⟨t, ht⟩ : ∃ t : ByteArray, t = ⟨⟨(l.take hi).flatMap fun c => [Sc.hexc (c.toNat / 16), Sc.hexc (c.toNat % 16)]⟩⟩ := ⟨_, rfl⟩
        have hts : t.data.toList = (l.take hi).flatMap fun c => [Sc.hexc (c.toNat / 16), Sc.hexc (c.toNat % 16)] := by rw [ht]
        have hest : es = bytesV t := by rw [hes, hieq, bytesV, hts]; rfl
        have htz : t.size = n3 := by rw [bsize, hn3, hest, bytesV_len, bsize]
        cbv
        refine CallAt.use [0, 1] [.cells (.cons 1 (.ptr 0 0) (.cons 1 (.sl 1 0 0 1 n3 m3) .nil)) 63, .buf es 1 5] [.ptr 0 0] e24 (h24 R t es n3 m3 hest htz.symm (by rw [hn3, hel]; omega) (by omega) (by rw [hn3, hel]; omega)) rfl rfl rfl rfl ?_
        intro sv R' H' hres
        obtain ⟨rfl, rfl, rfl⟩ := hres
        cbv
        rw [← hK]
        refine ⟨t, rfl, rfl, rfl, fun h64 => ?_⟩
        rw [hts, hhi', Nat.min_eq_left h64, List.take_length]
        unfold Sc.unhexL
        rw [if_neg hl0]
      · have hlt : ii < c4 := h2.1 rfl
        have hil : i + 1 < hi := by ((try simp only [nc] at *); omega)
        obtain ⟨x, hx⟩ : ∃ x, l[i + 1]? = some x := ⟨_, List.getElem?_eq_getElem (by omega)⟩
        have htk : l.take (i + 1 + 1) = l.take (i + 1) ++ [x] := by rw [List.take_add_one, hx]; rfl
        have hxl := x.toNat_lt
        cbv
        refine ⟨by ((try simp only [nc] at *); omega), by ((try simp only [nc] at *); omega), fun j hj => ?_⟩
        have hji : j = i + 1 := by ((try simp only [nc] at *); omega)
        obtain ⟨y, hy⟩ : ∃ y : Int, y = zN x.toNat := ⟨_, rfl⟩
        have hy' : y = (x.toNat : Int) := hy
        refine LdP.at hr2 (Value.int .u8 y) (by rw [hji, hy]; simp only [byV, List.getElem?_map, List.getElem?_take_of_lt hil, hx, Option.map_some]; rfl) ?_
        cbv
        refine ⟨by decide, ⟨fun y1 hy1 => ?_⟩⟩
        have hy1' : y1 = ((x.toNat / 16 : Nat) : Int) := by rw [hy1, hy', Int.fdiv_eq_ediv_of_nonneg _ (by decide)]; rfl
        cbv
        refine hexStep hy1' (by omega) fun p1 hp1 => ?_
        cbv
        refine CallAt.use [0, 1] [.cells (.cons 1 (.ptr 0 0) (.cons 1 (.sl 1 0 0 1 n3 m3) .nil)) 63, .buf es 1 5] [.ptr 0 0, .raw (.int .u8 p1)] e48' (h48u p1 R es n3 m3 hn3 (by ((try simp only [nc] at *); omega))) rfl rfl rfl rfl ?_
        intro sv R' H' hres
        obtain ⟨es1, n4, m4, rfl, rfl, he1, hn4, hm4, rfl⟩ := hres
        have hl1 : es1.length = 2 * (i + 1) + 1 := by rw [he1, List.length_append, hel]; rfl
        cbv
        refine ⟨fun y2 hy2 => ?_⟩
        have hy2' : y2 = ((x.toNat % 16 : Nat) : Int) := by rw [hy2, hy']; exact and15 _ hxl
        cbv
        refine hexStep hy2' (by omega) fun p2 hp2 => ?_
        cbv
        refine CallAt.use [0, 3] [.cells (.cons 1 (.ptr 0 0) (.cons 1 (.sl 1 0 0 1 n4 m4) .nil)) 63, .buf es1 1 5] [.ptr 0 0, .raw (.int .u8 p2)] e48' (h48u p2 R' es1 n4 m4 hn4 (by ((try simp only [nc] at *); omega))) rfl rfl rfl rfl ?_
        intro sv R2 H2 hres
        obtain ⟨es2, n5, m5, rfl, rfl, he2, hn5, hm5, rfl⟩ := hres
        cbv
        refine ⟨fun c5 hc5 => ?_⟩
        rw [wrap_id (n := ii + 1) (by ((try simp only [nc] at *); omega)) (by ((try simp only [nc] at *); omega))] at hc5
        have hc5' : c5 = zN (i + 1 + 1) := by simp only [zN]; ((try simp only [nc] at *); omega)
        subst hc5'
        refine hK' _ (i + 1 + 1, es2, n5, m5) [some 0, some 5] (by cbv; repeat (first | exact trivial | refine ⟨.mk _, ?_⟩)) ⟨by omega, fun _ => ⟨hn5, hm5, ?_⟩⟩ (by ((try simp only [nc] at *); omega))
        rw [he2, he1, htk, zN_hex hp1, zN_hex hp2, hes]
        simp [byV]
  · have hz : c1 = 0 := h1.1 rfl
    have hl0 : l = [] := List.length_eq_zero_iff.1 (by ((try simp only [nc] at *); omega))
    cbv
    rw [← hK]
    exact ⟨⟨#[45]⟩, rfl, rfl, rfl, fun _ => by rw [hl0]; rfl⟩
end Go.Proofs

/-
  Set, forms, op: what they compute.
-/
import Derived.Test.YtalhhkjdlnamdaaDoorWa
import Derived.Lib.LaidTab
import Derived.Lib.ItoaWalk
namespace Go.Proofs
open Go Go.SX
set_option maxRecDepth 100000
theorem ROSl.shapeV {R : RO} {v : Value} {wd : Nat} {es : List Value} (h : ROSl R v es wd) : ∃ q n c, v = .slice q n c ∧ n = es.length ∧ n ≤ c := by
  obtain ⟨q, c, h1, h2⟩ := h.shape
  exact ⟨q, _, c, h1, rfl, h2⟩
/-- what reading comes to: a slice, and whether it is right -/
def SlRes {α : Type} (R : RO) (res : Option α) (enc : α → List Value) : SV → RO → List SObj → Prop := fun sv R' H' =>
  ∃ v es b, sv = .tup (.cons 1 (.raw v) (.cons 1 (.raw (.bool b)) .nil)) ∧ H' = [] ∧ SubRO R R' ∧ ROSl R' v es 1 ∧ b = res.isSome ∧ (∀ x, res = some x → es = enc x)

def strV (l : List ByteArray) : List Value := l.map .string
/-- what the variables hold that the code reads -/
structure Gl (R : RO) : Prop where
  pow : ∀ w : World, (∀ k o, R k = some o → w.heap[k]? = some o) → Lib.TabIs Tryd.prog w "internal/strconv.uint64pow10" .u64 Lib.pow10Tab
  max : ∃ m, ∀ w : World, (∀ k o, R k = some o → w.heap[k]? = some o) → w.cell? ⟨18, 0, none⟩ = some (.int .i64 m)
  err : ∃ arr0 e0 f0 arr1 e1 f1 t0 p0 t1 p1, R 0 = some (.cells arr0 e0 f0) ∧ arr0[0]? = some (.iface t0 p0) ∧ R 1 = some (.cells arr1 e1 f1) ∧ arr1[0]? = some (.iface t1 p1)
theorem Gl.mono {R R' : RO} (h : Gl R) (g : SubRO R R') : Gl R' := by
  obtain ⟨arr0, e0, f0, arr1, e1, f1, t0, p0, t1, p1, h1, h2, h3, h4⟩ := h.err
  obtain ⟨m, hm⟩ := h.max
  exact ⟨fun w hw => h.pow w fun k o hk => hw k o (g k o hk), ⟨m, fun w hw => hm w fun k o hk => hw k o (g k o hk)⟩, arr0, e0, f0, arr1, e1, f1, t0, p0, t1, p1, g _ _ h1, h2, g _ _ h3, h4⟩
/-- the library's functions -/
structure Kit (P : Program) : Prop where
  e28 : Ent P 28
  h28 : ∀ (s : ByteArray) (c : UInt8) (n : Int) (R : RO), n = zN c.toNat → CallW P 28 [.raw (.string s), .raw (.int .u8 n)] R [] (fun sv R' H' => sv = .raw (.int .i64 (Lib.indexByte s.data.toList c)) ∧ R' = R ∧ H' = [])
  e54 : Ent P 54
  h54 : ∀ (s : ByteArray) (c : UInt8) (R : RO), CallW P 54 [.raw (.string s), .raw (.string ⟨#[c]⟩)] R [] (fun sv R' H' => sv = .raw (.int .i64 (Lib.indexByte s.data.toList c)) ∧ R' = R ∧ H' = [])
  e30 : Ent P 30
  h30 : ∀ (s : ByteArray) (R : RO), s.size ≤ 2 ^ 30 → Gl R → CallW P 30 [.raw (.string s), .raw (.string ⟨#[32]⟩)] R [] (fun sv R' H' => ∃ v ws, sv = .raw v ∧ H' = [] ∧ SubRO R R' ∧ ROSl R' v (strV ws) 1 ∧ ws.map (fun (w : ByteArray) => w.data.toList) = Sc.spl 32 s.data.toList)
  e16 : Ent P 16
  h16 : ∀ (s : ByteArray) (R : RO), s.size ≤ 2 ^ 30 → CallW P 16 [.raw (.string s), .raw (.string ⟨#[10]⟩)] R [] (fun sv R' H' => sv = .raw (.tuple #[.string ⟨(Lib.trimSuffix s.data.toList [10]).toArray⟩, .bool (Lib.hasSuffix s.data.toList [10])]) ∧ R' = R ∧ H' = [])
  e47 : Ent P 47
  h47 : ∀ (n : Int) (R : RO), -9223372036854775808 ≤ n → n ≤ 9223372036854775807 → Gl R → CallW P 47 [.raw (.int .i64 n)] R [] (fun sv R' H' => sv = .raw (.string ⟨(Lib.itoa n).toArray⟩) ∧ R' = R ∧ H' = [])
  e49 : Ent P 49
  h49 : ∀ (v : Value) (ws : List ByteArray) (R : RO), ROSl R v (strV ws) 1 → (Lib.join (ws.map fun (w : ByteArray) => w.data.toList) [44]).length ≤ 2 ^ 30 → ws.length ≤ 2 ^ 30 →
    CallW P 49 [.raw v, .raw (.string ⟨#[44]⟩)] R [] (fun sv R' H' => sv = .raw (.string ⟨(Lib.join (ws.map fun (w : ByteArray) => w.data.toList) [44]).toArray⟩) ∧ R' = R ∧ H' = [])
  e36 : Ent P 36
  h36u : ∀ (R : RO) (x : SV) (H : List SObj), CallW P 36 [.ptr 0 0] R (.cells (.cons 1 (.ptr 0 0) (.cons 1 x .nil)) 63 :: H) (fun sv R' H' => sv = .tup .nil ∧ R' = R ∧ H' = .cells (.cons 1 (.ptr 0 0) (.cons 1 x .nil)) 63 :: H)
  h36f : ∀ (R : RO), CallW P 36 [.ptr 0 0] R [.cells (.cons 1 (.raw (.pointer none)) (.cons 1 (.raw (.slice none 0 0)) .nil)) 63]
    (fun sv R' H' => sv = .tup .nil ∧ R' = R ∧ H' = [.cells (.cons 1 (.ptr 0 0) (.cons 1 (.raw (.slice none 0 0)) .nil)) 63])
  e24 : Ent P 24
  h24u : ∀ (R : RO) (t : ByteArray) (es : List Value) (n cap : Nat), es = bytesV t → n = t.size → n ≠ 0 → n ≤ cap → n ≤ 9223372036854775807 → CallW P 24 [.ptr 0 0] R [.cells (.cons 1 (.ptr 0 0) (.cons 1 (.sl 1 0 0 1 n cap) .nil)) 63, .buf es 1 5]
    (fun sv R' H' => sv = .raw (.string t) ∧ R' = R ∧ H' = [.dead, .dead])
  h24f : ∀ (R : RO), CallW P 24 [.ptr 0 0] R [.cells (.cons 1 (.raw (.pointer none)) (.cons 1 (.raw (.slice none 0 0)) .nil)) 63]
    (fun sv R' H' => sv = .raw (.string ⟨#[]⟩) ∧ R' = R ∧ H' = [.dead])

theorem g44 (kit : Kit Tryd.prog) (t : ByteArray) (R : RO) (hsz : t.size ≤ 2 ^ 40) : CallW Tryd.prog 44 [.raw (.string t)] R [] (SlRes R (Sc.hexL t.data.toList) byV) :=
  f44 t R _ hsz kit.h28 kit.e28 fun R' v es b h1 h2 h3 h4 => ⟨v, es, b, rfl, rfl, h1, h2, h3, h4⟩
theorem g45 (kit : Kit Tryd.prog) (t : ByteArray) (R : RO) (hsz : t.size ≤ 2 ^ 40) : CallW Tryd.prog 45 [.raw (.string t)] R [] (SlRes R (Sc.powL t.data.toList) intV) :=
  f45 t R _ hsz kit.h54 kit.e54 fun R' v es b h1 h2 h3 h4 => ⟨v, es, b, rfl, rfl, h1, h2, h3, h4⟩
theorem g46 (t : ByteArray) (R : RO) (hsz : t.size ≤ 2 ^ 40) : CallW Tryd.prog 46 [.raw (.string t)] R [] (SlRes R (Sc.bitL t.data.toList) boolV) :=
  f46 t R _ hsz fun R' v es b h1 h2 h3 h4 => ⟨v, es, b, rfl, rfl, h1, h2, h3, h4⟩

/-- an op's cells -/
def opC (k i n : Int) (vs vk vd : Value) : SC :=
  .cons 1 (.raw (.int .i64 k)) (.cons 1 (.raw (.int .i64 i)) (.cons 1 (.raw (.int .i64 n)) (.cons 1 (.raw vs) (.cons 1 (.raw vk) (.cons 1 (.raw vd) .nil)))))
structure OpR (R : RO) (o : Sc.Op) (k i n : Int) (vs vk vd : Value) : Prop where
  k : o.kind = k
  i : o.node = i
  n : o.n = n
  s : ROSl R vs (intV o.set) 1
  b : ROSl R vk (boolV o.keep) 1
  d : ROSl R vd (byV o.data) 1
theorem OpR.mono {R R' : RO} {o : Sc.Op} {k i n : Int} {vs vk vd : Value} (h : OpR R o k i n vs vk vd) (g : SubRO R R') : OpR R' o k i n vs vk vd :=
  ⟨h.k, h.i, h.n, h.s.mono g, h.b.mono g, h.d.mono g⟩

/-- set's end -/
def SetRes (R : RO) (res : Option Sc.Op) : SV → RO → List SObj → Prop := fun sv R' H' =>
  ∃ b k i n vs vk vd, sv = .raw (.bool b) ∧ H' = [.cells (opC k i n vs vk vd) 32] ∧ SubRO R R' ∧ b = res.isSome ∧ (∀ o, res = some o → OpR R' o k i n vs vk vd)


set_option maxHeartbeats 4000000 in
theorem f31 (kit : Kit Tryd.prog) (o : Sc.Op) (k i n : Int) (vs vk vd : Value) (p : UInt8) (pn : Int) (hpn : pn = zN p.toNat) (t : ByteArray) (R : RO) (hsz : t.size ≤ 2 ^ 40) (ho : OpR R o k i n vs vk vd) :
    CallW Tryd.prog 31 [.ptr 0 0, .raw (.int .u8 pn), .raw (.string t)] R [.cells (opC k i n vs vk vd) 32] (SetRes R (Sc.setL o p t.data.toList)) := by
  have e43' := e43
  have e44' := e44
  have e45' := e45
  have e46' := e46
  have h43 := f43
  have h44 := g44 kit
  have h45 := g45 kit
  have h46 := g46
  refine vcF_ok Tryd.func31 c31 ?_
  generalize hK : SetRes R (Sc.setL o p t.data.toList) = K
  revert e43' e44' e45' e46' h43 h44 h45 h46
  clear kit
  generalize Tryd.prog = P
  intro e43' e44' e45' e46' h43 h44 h45 h46
  have hpn' : pn = (p.toNat : Int) := hpn
  have hq : ∀ q : UInt8, (pn = zN q.toNat ↔ p = q) := fun q => by
    simp only [zN]; rw [hpn', ← UInt8.toNat_inj]; omega
  have q110 : pn = 110 ↔ p = 110 := hq 110
  have q105 : pn = 105 ↔ p = 105 := hq 105
  have q104 : pn = 104 ↔ p = 104 := hq 104
  have q112 : pn = 112 ↔ p = 112 := hq 112
  have q98 : pn = 98 ↔ p = 98 := hq 98
  obtain ⟨rk, ri, rn, rs, rb, rd⟩ := ho
  clear hq hpn hpn'
  cbv
  refine ⟨fun b1 h1 => ?_⟩
  cases b1
  · have n1 : ¬ p = 110 := fun h => by cases h1.2 (q110.2 h)
    cbv
    refine ⟨fun b2 h2 => ?_⟩
    cases b2
    · have n2 : ¬ p = 105 := fun h => by cases h2.2 (q105.2 h)
      cbv
      refine ⟨fun b3 h3 => ?_⟩
      cases b3
      · have n3 : ¬ p = 104 := fun h => by cases h3.2 (q104.2 h)
        cbv
        refine ⟨fun b4 h4 => ?_⟩
        cases b4
        · have n4 : ¬ p = 112 := fun h => by cases h4.2 (q112.2 h)
          cbv
          refine ⟨fun b5 h5 => ?_⟩
          cases b5
          · have n5 : ¬ p = 98 := fun h => by cases h5.2 (q98.2 h)
            cbv
            rw [← hK]
            refine ⟨false, k, i, n, vs, vk, vd, rfl, rfl, .refl _, ?_, ?_⟩
            · unfold Sc.setL; rw [if_neg n1, if_neg n2, if_neg n3, if_neg n4, if_neg n5]; rfl
            · unfold Sc.setL; rw [if_neg n1, if_neg n2, if_neg n3, if_neg n4, if_neg n5]; intro o h; cases h
          · have n5 : p = 98 := q98.1 (h5.1 rfl)
            subst n5
            cbv
            refine CallAt.use [] [] [.raw (.string t)] e46' (h46 t R hsz) rfl rfl rfl rfl ?_
            rintro sv R' H' ⟨v, es, b, rfl, rfl, hs, hr, hb, hx⟩
            obtain ⟨vq, vn, vc, rfl, hvn, _⟩ := ROSl.shapeV hr
            cbv
            rw [← hK]
            refine ⟨b, k, i, n, vs, _, vd, rfl, rfl, hs, ?_, ?_⟩
            · rw [hb, Sc.set_b]; simp
            · intro o1 h
              rw [Sc.set_b, Option.map_eq_some_iff] at h
              obtain ⟨x, h6, h7⟩ := h
              subst h7
              refine ⟨rk, ri, rn, rs.mono hs, ?_, rd.mono hs⟩
              rw [hx x h6] at hr; exact hr
        · have n4 : p = 112 := q112.1 (h4.1 rfl)
          subst n4
          cbv
          refine CallAt.use [] [] [.raw (.string t)] e45' (h45 t R hsz) rfl rfl rfl rfl ?_
          rintro sv R' H' ⟨v, es, b, rfl, rfl, hs, hr, hb, hx⟩
          obtain ⟨vq, vn, vc, rfl, hvn, _⟩ := ROSl.shapeV hr
          cbv
          rw [← hK]
          refine ⟨b, k, i, n, _, vk, vd, rfl, rfl, hs, ?_, ?_⟩
          · rw [hb, Sc.set_p]; simp
          · intro o1 h
            rw [Sc.set_p, Option.map_eq_some_iff] at h
            obtain ⟨x, h6, h7⟩ := h
            subst h7
            refine ⟨rk, ri, rn, ?_, rb.mono hs, rd.mono hs⟩
            rw [hx x h6] at hr; exact hr
      · have n3 : p = 104 := q104.1 (h3.1 rfl)
        subst n3
        cbv
        refine CallAt.use [] [] [.raw (.string t)] e44' (h44 t R hsz) rfl rfl rfl rfl ?_
        rintro sv R' H' ⟨v, es, b, rfl, rfl, hs, hr, hb, hx⟩
        obtain ⟨vq, vn, vc, rfl, hvn, _⟩ := ROSl.shapeV hr
        cbv
        rw [← hK]
        refine ⟨b, k, i, n, vs, vk, _, rfl, rfl, hs, ?_, ?_⟩
        · rw [hb, Sc.set_h]; simp
        · intro o1 h
          rw [Sc.set_h, Option.map_eq_some_iff] at h
          obtain ⟨x, h6, h7⟩ := h
          subst h7
          refine ⟨rk, ri, rn, rs.mono hs, rb.mono hs, ?_⟩
          rw [hx x h6] at hr; exact hr
    · have n2 : p = 105 := q105.1 (h2.1 rfl)
      subst n2
      cbv
      refine CallAt.use [] [] [.raw (.string t)] e43' (h43 t R) rfl rfl rfl rfl ?_
      rintro sv R' H' ⟨rfl, rfl, rfl⟩
      obtain ⟨qn, qb, hp⟩ : ∃ pn pb, numP t.data.toList = (pn, pb) := ⟨_, _, rfl⟩
      rw [hp]
      cbv
      rw [← hK]
      refine ⟨qb, k, qn, n, vs, vk, vd, rfl, rfl, .refl _, ?_, ?_⟩
      · rw [Sc.set_i]; cases qb
        · rw [numP_f hp]; rfl
        · rw [numP_t hp]; rfl
      · intro o1 h
        rw [Sc.set_i] at h
        cases qb
        · rw [numP_f hp] at h; cases h
        · rw [numP_t hp] at h; cases h
          exact ⟨rk, rfl, rn, rs, rb, rd⟩
  · have n1 : p = 110 := q110.1 (h1.1 rfl)
    subst n1
    cbv
    refine CallAt.use [] [] [.raw (.string t)] e43' (h43 t R) rfl rfl rfl rfl ?_
    rintro sv R' H' ⟨rfl, rfl, rfl⟩
    obtain ⟨qn, qb, hp⟩ : ∃ pn pb, numP t.data.toList = (pn, pb) := ⟨_, _, rfl⟩
    rw [hp]
    cbv
    rw [← hK]
    refine ⟨qb, k, i, qn, vs, vk, vd, rfl, rfl, .refl _, ?_, ?_⟩
    · rw [Sc.set_n]; cases qb
      · rw [numP_f hp]; rfl
      · rw [numP_t hp]; rfl
    · intro o1 h
      rw [Sc.set_n] at h
      cases qb
      · rw [numP_f hp] at h; cases h
      · rw [numP_t hp] at h; cases h
        exact ⟨rk, ri, rfl, rs, rb, rd⟩
end Go.Proofs

namespace Go.Proofs
open Go Go.SX
set_option maxRecDepth 100000
def formV (f : Int × Sc.Bs × Sc.Bs) : Value := .agg #[.int .i64 f.1, .string ⟨⟨f.2.1⟩⟩, .string ⟨⟨f.2.2⟩⟩]
def formsV : List Value := Sc.forms.map formV
theorem f19 (R : RO) : CallW Tryd.prog 19 [] R [] (fun sv R' H' => ∃ v, sv = .raw v ∧ H' = [] ∧ SubRO R R' ∧ ROSl R' v formsV 3) := by
  refine CallW.then (vcF_ok Tryd.func19 c19 ?_)
  generalize Tryd.prog = P
  generalize hK : (fun (sv : SV) (R' : RO) (H' : List SObj) => ∃ v, sv = .raw v ∧ H' = [] ∧ SubRO R R' ∧ ROSl R' v formsV 3) = K
  cbv
  refine Then.frz formsV rfl rfl rfl rfl fun R2 q hs hr => ?_
  refine Then.trim rfl rfl (.ret ?_)
  subst hK
  exact ⟨_, rfl, rfl, hs, hr⟩
end Go.Proofs

namespace Go.Proofs
open Go Go.SX
set_option maxRecDepth 100000
/-- op's end -/
def OpRes (R : RO) (res : Option Sc.Op) : SV → RO → List SObj → Prop := fun sv R' H' =>
  ∃ b k i n vs vk vd, sv = .tup (.cons 1 (.agg (opC k i n vs vk vd)) (.cons 1 (.raw (.bool b)) .nil)) ∧ H' = [] ∧ SubRO R R' ∧ b = res.isSome ∧ (∀ o, res = some o → OpR R' o k i n vs vk vd)

theorem opF_drop {w : Sc.Bs} {ws : List Sc.Bs} {i : Nat} {f : Int × Sc.Bs × Sc.Bs} (h : Sc.forms[i]? = some f) :
    Sc.opF w ws (Sc.forms.drop i) = if w = f.2.1 ∧ ws.length = f.2.2.length then Sc.setsL (Sc.zop f.1) f.2.2 ws else Sc.opF w ws (Sc.forms.drop (i + 1)) := by
  obtain ⟨h1, h2⟩ := List.getElem?_eq_some_iff.1 h
  rw [List.drop_eq_getElem_cons h1, h2]; rfl

set_option maxHeartbeats 4000000 in
theorem f17 (kit : Kit Tryd.prog) (t : ByteArray) (R : RO) (hsz : t.size ≤ 2 ^ 30) (hgl : Gl R) : CallW Tryd.prog 17 [.raw (.string t)] R [] (OpRes R (Sc.opL t.data.toList)) := by
  have e31' := e31
  have e19' := e19
  have e30' := kit.e30
  have h30 := kit.h30
  have h19 := f19
  have h31 := f31 kit
  have hm : Tryd.prog.follows .mixedOrders = true := by kernel_rfl
  refine vcF_ok Tryd.func17 c17 ?_
  generalize hK : OpRes R (Sc.opL t.data.toList) = K
  revert e31' e19' e30' h30 h19 h31 hm
  clear kit
  generalize Tryd.prog = P
  intro e31' e19' e30' h30 h19 h31 hm
  cbv
  refine CallAt.use [] [] [.raw (.string t), .raw (.string ⟨#[32]⟩)] e30' (h30 t R hsz hgl) rfl rfl rfl rfl ?_
  rintro sv R1 H1 ⟨v, ws, rfl, rfl, hs1, hr1, hws⟩
  have hwne : ws ≠ [] := fun e => by subst e; exact Sc.spl_ne 32 _ hws.symm
  obtain ⟨w0, ws', rfl⟩ := List.exists_cons_of_ne_nil hwne
  obtain ⟨k1, o1, cap1, hv1, hcap1⟩ := hr1.shapeN (by simp [strV])
  obtain ⟨n1, hn1⟩ : ∃ n1, n1 = (strV (w0 :: ws')).length := ⟨_, rfl⟩
  rw [← hn1] at hv1 hcap1
  have hn1' : n1 = ws'.length + 1 := by rw [hn1]; simp [strV]
  subst hv1
  cbv
  refine CallAt.use [] [] [] e19' (h19 R1) rfl rfl rfl rfl ?_
  rintro sv R2 H2 ⟨vf, rfl, rfl, hs2, hr2⟩
  obtain ⟨k2, o2, cap2, hv2, hcap2⟩ := hr2.shapeN (by simp [formsV, Sc.forms])
  obtain ⟨n2, hn2⟩ : ∃ n2, n2 = formsV.length := ⟨_, rfl⟩
  rw [← hn2] at hv2 hcap2
  subst hv2
  have hn2' : n2 = 10 := hn2
  have hr1 := hr1.mono hs2
  have hopl : Sc.opL t.data.toList = Sc.opF w0.data.toList (ws'.map (·.data.toList)) Sc.forms := by
    unfold Sc.opL; rw [← hws]; rfl
  cbv
  refine ⟨fun c1 hc1 => ?_⟩
  have hc1' : c1 = 10 := by rw [hc1, hn2']; rfl
  cbv
  refine loop_at (fun s (x : Nat) => { s with tm := s.tm.put 13 (.raw (.int .i64 x)) })
    (fun x => x ≤ 10 ∧ Sc.opL t.data.toList = Sc.opF w0.data.toList (ws'.map (·.data.toList)) (Sc.forms.drop x))
    (fun x => 10 - x) 0 [some 0] (by cbv; repeat (first | exact trivial | refine ⟨.mk _, ?_⟩)) ⟨by omega, by rw [hopl]; rfl⟩ ?_
  rintro x ⟨hx, hfs⟩ K' hK'
  simp only at hx hfs hK' ⊢
  obtain ⟨xi, hxi⟩ : ∃ xi : Int, xi = x := ⟨_, rfl⟩
  rw [← hxi]
  cbv
  refine ⟨fun b1 h1 => ?_⟩
  cases b1
  · have hlt : ¬ xi < c1 := fun h => by cases h1.2 h
    have hx10 : x = 10 := by ((try simp only [nc] at *); omega)
    subst hx10
    cbv
    rw [← hK]
    have hnone : Sc.opL t.data.toList = none := by rw [hfs]; rfl
    refine ⟨false, 0, 0, 0, .slice none 0 0, .slice none 0 0, .slice none 0 0, rfl, rfl, hs1.trans hs2, by rw [hnone]; rfl, fun o h => by rw [hnone] at h; cases h⟩
  · have hlt : xi < c1 := h1.1 rfl
    have hxlt : x < 10 := by ((try simp only [nc] at *); omega)
    obtain ⟨⟨fk, fw, fp⟩, hf⟩ : ∃ f, Sc.forms[x]? = some f := ⟨_, List.getElem?_eq_getElem (by simpa [Sc.forms] using hxlt)⟩
    have hfv : formsV[x]? = some (formV (fk, fw, fp)) := by simp [formsV, hf]
    rw [opF_drop hf] at hfs
    simp only at hfs
    cbv
    refine ⟨by ((try simp only [nc] at *); omega), by ((try simp only [nc] at *); omega), fun j hj => ?_⟩
    have hjx : j = x := by ((try simp only [nc] at *); omega)
    subst hjx
    refine .mk _ _ _ hr2 hfv rfl ?_
    cbv
    refine ⟨⟨⟨_, rfl, rfl, by simp [scal]⟩, rfl, rfl⟩, ?_⟩
    cbv
    refine draw_rule hm ?_
    cbv
    refine ⟨by decide, by ((try simp only [nc] at *); omega), fun j1 hj1 => ?_⟩
    cbv
    refine LdP.at hr1 (Value.string w0) (by rw [hj1]; rfl) ?_
    cbv
    refine ⟨fun b2 h2 => ?_⟩
    rw [bstr_eq] at h2
    have next : Sc.opL t.data.toList = Sc.opF w0.data.toList (ws'.map (·.data.toList)) (Sc.forms.drop (j + 1)) → ∀ c9, c9 = IntKind.i64.wrap (xi + 1) → c9 = ((j + 1 : Nat) : Int) := by
      intro _ c9 h9
      rw [wrap_id (n := xi + 1) (by ((try simp only [nc] at *); omega)) (by ((try simp only [nc] at *); omega))] at h9
      ((try simp only [nc] at *); omega)
    cases b2
    · have hw : w0.data.toList = fw := Decidable.by_contra fun h => by cases h2.2 h
      cbv
      refine ⟨fun c2 hc2 => ?_⟩
      cbv
      refine ⟨fun c3 hc3 => ?_⟩
      cbv
      refine ⟨fun c4 hc4 => ?_⟩
      cbv
      refine ⟨fun b3 h3 => ?_⟩
      have hc2' : c2 = (ws'.length : Int) + 1 := by rw [hc2, hn1]; simp [zN, strV]
      have hc3' : c3 = (fp.length : Int) := by rw [hc3]; rfl
      have hfpl : fp.length ≤ 3 := (Sc.forms_ok _ (List.mem_of_getElem? hf)).2.2.2.2.2
      have hwl : (List.map (fun (x : ByteArray) => x.data.toList) ws').length = ws'.length := by simp
      rw [wrap_id (by ((try simp only [nc] at *); omega)) (by ((try simp only [nc] at *); omega))] at hc4
      cases b3
      · have hlen : c2 = c4 := Decidable.by_contra fun h => by cases h3.2 h
        rw [if_pos ⟨hw, by rw [hwl]; ((try simp only [nc] at *); omega)⟩] at hfs
        have hwlen : ws'.length = fp.length := by ((try simp only [nc] at *); omega)
        cbv
        refine ⟨fun c5 hc5 => ?_⟩
        have hc5' : c5 = (fp.length : Int) := by rw [hc5]; rfl
        cbv
        refine loop_at (fun s (y : Nat × RO × Sc.Op × Int × Int × Int × Value × Value × Value) => { s with ro := y.2.1, heap := hset s.heap 2 (.cells (opC y.2.2.2.1 y.2.2.2.2.1 y.2.2.2.2.2.1 y.2.2.2.2.2.2.1 y.2.2.2.2.2.2.2.1 y.2.2.2.2.2.2.2.2) 32), tm := s.tm.put 38 (.raw (.int .i64 y.1)) })
          (fun y => y.1 ≤ fp.length ∧ SubRO R2 y.2.1 ∧ OpR y.2.1 y.2.2.1 y.2.2.2.1 y.2.2.2.2.1 y.2.2.2.2.2.1 y.2.2.2.2.2.2.1 y.2.2.2.2.2.2.2.1 y.2.2.2.2.2.2.2.2 ∧
            Sc.opL t.data.toList = Sc.setsL y.2.2.1 (fp.drop y.1) ((List.map (fun (x : ByteArray) => x.data.toList) ws').drop y.1))
          (fun y => fp.length - y.1) (0, R2, Sc.zop fk, fk, 0, 0, .slice none 0 0, .slice none 0 0, .slice none 0 0) [some 0, some 1, some 2] (by cbv; repeat (first | exact trivial | refine ⟨.mk _, ?_⟩))
          ⟨by omega, .refl _, ⟨rfl, rfl, rfl, .nil 1 none, .nil 1 none, .nil 1 none⟩, by simpa using hfs⟩ ?_
        rintro ⟨m, R3, o, k, i, n, vs, vk, vd⟩ ⟨hm1, hs3, ho, hsets⟩ K2 hK2
        simp only at hm1 hs3 ho hsets hK2 ⊢
        obtain ⟨mi, hmi⟩ : ∃ mi : Int, mi = m := ⟨_, rfl⟩
        rw [← hmi]
        cbv
        refine ⟨fun b4 h4 => ?_⟩
        cases b4
        · have hge : ¬ mi < c5 := fun h => by cases h4.2 h
          have hmf : m = fp.length := by ((try simp only [nc] at *); omega)
          have hso : Sc.opL t.data.toList = some o := by
            rw [hsets, hmf, List.drop_length]; rfl
          cbv
          rw [← hK]
          refine ⟨true, k, i, n, vs, vk, vd, rfl, rfl, (hs1.trans hs2).trans hs3, by rw [hso]; rfl, fun o' h => ?_⟩
          rw [hso] at h; cases h; exact ho
        · have hlt2 : mi < c5 := h4.1 rfl
          have hmf : m < fp.length := by ((try simp only [nc] at *); omega)
          have hr13 := hr1.mono hs3
          obtain ⟨p, hp⟩ : ∃ p, fp[m]? = some p := ⟨_, List.getElem?_eq_getElem hmf⟩
          obtain ⟨w, hw1⟩ : ∃ w, ws'[m]? = some w := ⟨_, List.getElem?_eq_getElem (by omega)⟩
          have hw1z : w.size ≤ 2 ^ 40 := by
            have : w.data.toList ∈ Sc.spl 32 t.data.toList := by
              rw [← hws]
              exact List.mem_map.2 ⟨w, List.mem_cons_of_mem _ (List.mem_of_getElem? hw1), rfl⟩
            have := Sc.spl_le this
            rw [bsize] at hsz ⊢
            omega
          have hdp : fp.drop m = p :: fp.drop (m + 1) := by
            have g := List.getElem?_eq_some_iff.1 hp
            rw [List.drop_eq_getElem_cons g.1, g.2]
          have hdw : (List.map (fun (x : ByteArray) => x.data.toList) ws').drop m = w.data.toList :: (List.map (fun (x : ByteArray) => x.data.toList) ws').drop (m + 1) := by
            have g := List.getElem?_eq_some_iff.1 hw1
            rw [List.drop_eq_getElem_cons (by rw [hwl]; omega)]
            congr 1
            rw [List.getElem_map, g.2]
          rw [hdp, hdw] at hsets
          simp only [Sc.setsL] at hsets
          cbv
          refine draw_rule hm ?_
          cbv
          refine ⟨by ((try simp only [nc] at *); omega), by show mi < (fp.length : Int); ((try simp only [nc] at *); omega), fun m1 hm2 => ?_⟩
          have hmm : m1 = m := by ((try simp only [nc] at *); omega)
          subst hmm
          refine ⟨fun pc pn hpc hpn => ?_⟩
          have hpp : pc = p := by
            have : fp[m1]? = some pc := by simpa using hpc
            rw [hp] at this; cases this; rfl
          subst hpp
          cbv
          refine ⟨fun c6 hc6 => ?_⟩
          rw [wrap_id (n := mi + 1) (by ((try simp only [nc] at *); omega)) (by ((try simp only [nc] at *); omega))] at hc6
          cbv
          refine ⟨by ((try simp only [nc] at *); omega), by ((try simp only [nc] at *); omega), fun m2 hm3 => ?_⟩
          have hmm2 : m2 = m1 + 1 := by ((try simp only [nc] at *); omega)
          cbv
          refine LdP.at hr13 (Value.string w) (by rw [hmm2]; simp [strV, hw1]) ?_
          cbv
          refine CallAt.use [2] [.cells (opC k i n vs vk vd) 32] [.ptr 0 0, .raw (.int .u8 pn), .raw (.string w)] e31' (h31 o k i n vs vk vd pc pn hpn w R3 hw1z ho) rfl rfl rfl rfl ?_
          rintro sv R4 H4 ⟨b5, k', i', n', vs', vk', vd', rfl, rfl, hs4, hb5, ho5⟩
          cases b5
          · have hnone : Sc.opL t.data.toList = none := by
              rw [hsets]
              cases hset : Sc.setL o pc w.data.toList with
              | none => rfl
              | some o1 => rw [hset] at hb5; cases hb5
            cbv
            refine ⟨.mk _, ?_⟩
            cbv
            rw [← hK]
            refine ⟨false, k', i', n', vs', vk', vd', rfl, rfl, ((hs1.trans hs2).trans hs3).trans hs4, by rw [hnone]; rfl, fun o' h => by rw [hnone] at h; cases h⟩
          · obtain ⟨o1, hset⟩ : ∃ o1, Sc.setL o pc w.data.toList = some o1 := by
              cases hset : Sc.setL o pc w.data.toList with
              | none => rw [hset] at hb5; cases hb5
              | some o1 => exact ⟨o1, rfl⟩
            rw [hset] at hsets
            simp only [Option.bind_some] at hsets
            cbv
            refine ⟨.mk _, ?_⟩
            cbv
            refine ⟨fun c7 hc7 => ?_⟩
            rw [wrap_id (n := mi + 1) (by ((try simp only [nc] at *); omega)) (by ((try simp only [nc] at *); omega))] at hc7
            have hc7' : c7 = ((m1 + 1 : Nat) : Int) := by ((try simp only [nc] at *); omega)
            subst hc7'
            refine hK2 _ (m1 + 1, R4, o1, k', i', n', vs', vk', vd') [some 0, some 1, some 2] (by cbv; repeat (first | exact trivial | refine ⟨.mk _, ?_⟩)) ⟨by ((try simp only [nc] at *); omega), hs3.trans hs4, ho5 o1 hset, hsets⟩ (by ((try simp only [nc] at *); omega))
      · have hlen : ¬ c2 = c4 := h3.1 rfl
        rw [if_neg (by rw [hwl]; rintro ⟨_, h⟩; exact hlen (by ((try simp only [nc] at *); omega)))] at hfs
        cbv
        refine ⟨fun c9 hc9 => ?_⟩
        have := next hfs c9 hc9
        subst this
        refine hK' _ (j + 1) [some 0] (by cbv; repeat (first | exact trivial | refine ⟨.mk _, ?_⟩)) ⟨by ((try simp only [nc] at *); omega), hfs⟩ (by ((try simp only [nc] at *); omega))
    · have hw : ¬ w0.data.toList = fw := h2.1 rfl
      cbv
      refine ⟨fun c9 hc9 => ?_⟩
      rw [if_neg (fun h => hw h.1)] at hfs
      have := next hfs c9 hc9
      subst this
      refine hK' _ (j + 1) [some 0] (by cbv; repeat (first | exact trivial | refine ⟨.mk _, ?_⟩)) ⟨by ((try simp only [nc] at *); omega), hfs⟩ (by ((try simp only [nc] at *); omega))
end Go.Proofs

/-
  Errors.Is at two errors of errors.New, Num, and the law ScriptLong, walked: it returns true at every int, over the library's contracts.
-/
import Derived.Test.YtalhhkjdlnamdaaDoorProg
import Derived.KernelRfl
import Derived.WalkKit
import Derived.LaidEql
import Derived.Stop.Asserts
import Derived.RowKitTokens
import Derived.Test.YtalhhkjdlnamdaaDoorWg
namespace Go.Proofs
open Go.RowKit Go.Extern.Stop Go.Stop Go.Extern
theorem Tryd.isTypeOf (v : Value) (w : World) : (callFunc 37 #[.iface 145 v]).run Tryd.prog w = .ok (.value (.iface 101 (.agg #[.pointer (some ⟨24, 145, none⟩)]))) w := by kernel_rfl
theorem Tryd.isComparable (w : World) : (callFunc 104 #[.agg #[.pointer (some ⟨24, 145, none⟩)]]).run Tryd.prog w = .ok (.value (.bool true)) w := by kernel_rfl
theorem Tryd.isMethodComparable (v : Value) (w : World) : (Go.method 278 101 v "Comparable").run Tryd.prog w = .ok (104, v) w := by kernel_rfl
theorem Tryd.isComp : (Tryd.prog.info? 145).map (·.comparable) = some true := by kernel_rfl
theorem Tryd.isSize : (Tryd.prog.info? 167).map (·.size) = some 1 := by kernel_rfl
theorem Tryd.noIsE (v : Value) (xT : TypeId) (w : World) : (Instr.typeAssert (.iface 145 v) xT 103 true).run Tryd.prog w = .ok (.tuple #[.nilIface, .bool false]) w := run_typeAssert_lacksB Tryd.underlying103 (by kernel_rfl) (by kernel_rfl) v xT w
theorem Tryd.noUnwrapE (v : Value) (xT : TypeId) (w : World) : (Instr.typeAssert (.iface 145 v) xT 106 true).run Tryd.prog w = .ok (.tuple #[.nilIface, .bool false]) w := run_typeAssert_lacksB Tryd.underlying106 (by kernel_rfl) (by kernel_rfl) v xT w
theorem Tryd.noUnwrapsE (v : Value) (xT : TypeId) (w : World) : (Instr.typeAssert (.iface 145 v) xT 108 true).run Tryd.prog w = .ok (.tuple #[.nilIface, .bool false]) w := run_typeAssert_lacksB Tryd.underlying108 (by kernel_rfl) (by kernel_rfl) v xT w
set_option maxRecDepth 100000 in
theorem is_same (a : Addr) (w : World) :
    Calls Tryd.prog 25 #[.iface 145 (.pointer (some a)), .iface 145 (.pointer (some a))] w fun e w' => e = .returned (.bool true) ∧ w' = w := by
  obtain ⟨i, hi, hcmp⟩ := Option.map_eq_some_iff.1 Tryd.isComp
  obtain ⟨j, hj, hjs⟩ := Option.map_eq_some_iff.1 Tryd.isSize
  have tT := Tryd.isTypeOf
  have cT := Tryd.isComparable
  have mR := Tryd.isMethodComparable
  have heq := run_eql_iface_ptr_same (P := Tryd.prog) w a Tryd.underlying25 Tryd.underlying145 hi hcmp hj
  go_enter Tryd.func25, Tryd.ntmps25
  go_wp2
  refine wp_loop_rounds 1 ?_
  rw [rounds_succ]
  go_wp2
  go_ret
  exact ⟨rfl, rfl⟩
set_option maxRecDepth 100000 in
theorem is_other (a b : Addr) (ca cb : Array Value) (ta tb : TypeId) (fa fb : Nat × Nat) (w : World) (hne : a ≠ b) (ha : w.heap[a.block]? = some (.cells ca ta (0, 0))) (hb : w.heap[b.block]? = some (.cells cb tb (0, 0))) :
    Calls Tryd.prog 25 #[.iface 145 (.pointer (some a)), .iface 145 (.pointer (some b))] w fun e w' => e = .returned (.bool false) ∧ w' = w := by
  obtain ⟨i, hi, hcmp⟩ := Option.map_eq_some_iff.1 Tryd.isComp
  obtain ⟨j, hj, hjs⟩ := Option.map_eq_some_iff.1 Tryd.isSize
  have tT := Tryd.isTypeOf
  have cT := Tryd.isComparable
  have mR := Tryd.isMethodComparable
  have nE := Tryd.noIsE
  have uE := Tryd.noUnwrapE
  have vE := Tryd.noUnwrapsE
  have heq := run_eql_iface_ptr_other (P := Tryd.prog) w Tryd.underlying25 Tryd.underlying145 hi hcmp hj (by rw [hjs]; decide) hne ha hb
  go_enter Tryd.func25, Tryd.ntmps25
  go_wp2
  refine wp_loop_rounds 1 ?_
  rw [rounds_succ]
  go_wp2
  go_ret
  exact ⟨rfl, rfl⟩
end Go.Proofs

namespace Go.Proofs
open Go Go.SX Go.RowKit
set_option maxRecDepth 100000
/-- the errors of package api: pointers, each to a row of its own -/
structure GlA (R : RO) (ad : Nat → Addr) : Prop where
  val : ∀ g, g < 18 → ∃ arr e f, R g = some (.cells arr e f) ∧ arr[0]? = some (.iface 145 (.pointer (some (ad g))))
  row : ∀ g, g < 18 → ∃ c t, R (ad g).block = some (.cells c t (0, 0))
  ne : ∀ g h, g < 18 → h < 18 → g ≠ h → ad g ≠ ad h
theorem GlA.mono {R R' : RO} {ad : Nat → Addr} (h : GlA R ad) (g : SubRO R R') : GlA R' ad :=
  ⟨fun k hk => by obtain ⟨a, e, f, h1, h2⟩ := h.val k hk; exact ⟨a, e, f, g _ _ h1, h2⟩, fun k hk => by obtain ⟨c, t, h1⟩ := h.row k hk; exact ⟨c, t, g _ _ h1⟩, h.ne⟩
theorem GlA.glV {R : RO} {ad : Nat → Addr} (h : GlA R ad) {g : Nat} (hg : g < 18) : glV R g = .iface 145 (.pointer (some (ad g))) := by
  obtain ⟨a, e, f, h1, h2⟩ := h.val g hg
  simp only [Go.Proofs.glV, h1, Array.getD_eq_getD_getElem?, h2]; rfl
theorem f25 (R : RO) (ad : Nat → Addr) (hA : GlA R ad) (g h : Nat) (hg : g < 18) (hh : h < 18) : CallW Tryd.prog 25 [.raw (.iface 145 (.pointer (some (ad g)))), .raw (.iface 145 (.pointer (some (ad h))))] R []
    (fun sv R' H' => sv = .raw (.bool (decide (g = h))) ∧ R' = R ∧ H' = []) := by
  refine CallW.kit (vs := [.iface 145 (.pointer (some (ad g))), .iface 145 (.pointer (some (ad h)))]) fun w hw => ?_
  by_cases e : g = h
  · subst e
    refine (is_same (ad g) w).mono ?_
    rintro e w' ⟨rfl, rfl⟩
    exact ⟨by simp, Below.refl _ _⟩
  · obtain ⟨c1, t1, h1⟩ := hA.row g hg
    obtain ⟨c2, t2, h2⟩ := hA.row h hh
    refine (is_other (ad g) (ad h) c1 c2 t1 t2 (0, 0) (0, 0) w (hA.ne g h hg hh e) (hw _ _ h1) (hw _ _ h2)).mono ?_
    rintro e' w' ⟨rfl, rfl⟩
    exact ⟨by simp [e], Below.refl _ _⟩
theorem e25a : Ent Tryd.prog 25 := ent_of Tryd.func25 (by kernel_rfl) (by kernel_rfl)
set_option maxHeartbeats 8000000 in
theorem f13 (R : RO) (ad : Nat → Addr) (hA : GlA R ad) (g : Nat) (hg : g = 0 ∨ g = 1) : CallW Tryd.prog 13 [.raw (.iface 145 (.pointer (some (ad g))))] R []
    (fun sv R' H' => sv = .raw (.int .i64 ((g + 3 : Nat) : Int)) ∧ R' = R ∧ H' = []) := by
  have e25' := e25a
  have h25 := fun R (g h : Nat) (hg : g < 18) (hh : h < 18) hA => f25 R ad hA g h hg hh
  refine CallW.shrink (vcF_ok Tryd.func13 c13 ?_)
  generalize hK : (fun (sv : SV) (_ : RO) (H' : List SObj) => sv = .raw (.int .i64 ((g + 3 : Nat) : Int)) ∧ R = R ∧ H' = []) = K
  revert e25' h25
  generalize Tryd.prog = P
  intro e25' h25
  obtain ⟨arr0, ea0, fa0, hg0, hv0⟩ := hA.val 0 (by decide)
  obtain ⟨arr1, ea1, fa1, hg1, hv1⟩ := hA.val 1 (by decide)
  obtain ⟨arr2, ea2, fa2, hg2, hv2⟩ := hA.val 2 (by decide)
  obtain ⟨arr3, ea3, fa3, hg3, hv3⟩ := hA.val 3 (by decide)
  obtain ⟨arr4, ea4, fa4, hg4, hv4⟩ := hA.val 4 (by decide)
  obtain ⟨arr5, ea5, fa5, hg5, hv5⟩ := hA.val 5 (by decide)
  obtain ⟨arr6, ea6, fa6, hg6, hv6⟩ := hA.val 6 (by decide)
  obtain ⟨arr7, ea7, fa7, hg7, hv7⟩ := hA.val 7 (by decide)
  obtain ⟨arr8, ea8, fa8, hg8, hv8⟩ := hA.val 8 (by decide)
  obtain ⟨arr9, ea9, fa9, hg9, hv9⟩ := hA.val 9 (by decide)
  obtain ⟨arr10, ea10, fa10, hg10, hv10⟩ := hA.val 10 (by decide)
  obtain ⟨arr11, ea11, fa11, hg11, hv11⟩ := hA.val 11 (by decide)
  obtain ⟨arr12, ea12, fa12, hg12, hv12⟩ := hA.val 12 (by decide)
  obtain ⟨arr13, ea13, fa13, hg13, hv13⟩ := hA.val 13 (by decide)
  obtain ⟨arr14, ea14, fa14, hg14, hv14⟩ := hA.val 14 (by decide)
  obtain ⟨arr15, ea15, fa15, hg15, hv15⟩ := hA.val 15 (by decide)
  obtain ⟨arr16, ea16, fa16, hg16, hv16⟩ := hA.val 16 (by decide)
  obtain ⟨arr17, ea17, fa17, hg17, hv17⟩ := hA.val 17 (by decide)
  cbv
  refine .sc rfl rfl hg2 hv2 ?_
  cbv
  refine .sc rfl rfl hg3 hv3 ?_
  cbv
  refine .sc rfl rfl hg0 hv0 ?_
  cbv
  refine .sc rfl rfl hg1 hv1 ?_
  cbv
  refine .sc rfl rfl hg4 hv4 ?_
  cbv
  refine .sc rfl rfl hg5 hv5 ?_
  cbv
  refine .sc rfl rfl hg6 hv6 ?_
  cbv
  refine .sc rfl rfl hg7 hv7 ?_
  cbv
  refine .sc rfl rfl hg8 hv8 ?_
  cbv
  refine .sc rfl rfl hg9 hv9 ?_
  cbv
  refine .sc rfl rfl hg10 hv10 ?_
  cbv
  refine .sc rfl rfl hg11 hv11 ?_
  cbv
  refine .sc rfl rfl hg12 hv12 ?_
  cbv
  refine .sc rfl rfl hg13 hv13 ?_
  cbv
  refine .sc rfl rfl hg14 hv14 ?_
  cbv
  refine .sc rfl rfl hg15 hv15 ?_
  cbv
  refine .sc rfl rfl hg16 hv16 ?_
  cbv
  refine .sc rfl rfl hg17 hv17 ?_
  cbv
  refine ⟨fun c1 hc1 => ?_⟩
  have hc1' : c1 = 18 := hc1
  cbv
  refine loop_at (fun s (x : Nat) => { s with tm := s.tm.put 29 (.raw (.int .i64 x)) })
    (fun x => x ≤ g + 2) (fun x => g + 2 - x) 0 [some 0] (by cbv; repeat (first | exact trivial | refine ⟨.mk _, ?_⟩)) (by omega) ?_
  rintro x hx K' hK'
  simp only at hx hK' ⊢
  obtain ⟨xi, hxi⟩ : ∃ xi : Int, xi = x := ⟨_, rfl⟩
  rw [← hxi]
  cbv
  have hx4 : x = 0 ∨ x = 1 ∨ x = 2 ∨ x = 3 := by omega
  rcases hx4 with hx0 | hx1 | hx2 | hx3
  · subst hx0
    refine ⟨fun b1 h1 => ?_⟩
    have hb1 : b1 = true := h1.2 (by ((try simp only [nc] at *); omega))
    subst hb1
    cbv
    refine ⟨by ((try simp only [nc] at *); omega), by ((try simp only [nc] at *); omega), fun j hj => ?_⟩
    have hjx : j = 0 := by ((try simp only [nc] at *); omega)
    subst hjx
    cbv
    refine .mk _ _ rfl rfl ?_
    cbv
    refine CallAt.use [] [] [.raw (.iface 145 (.pointer (some (ad g)))), .raw (.iface 145 (.pointer (some (ad 2))))] e25' (h25 R g 2 (by omega) (by omega) hA) rfl rfl rfl rfl ?_
    intro sv R5 H5 hres
    obtain ⟨rfl, hR5, rfl⟩ := hres
    obtain rfl := hR5.symm
    have hne : decide (g = 2) = false := by simp; omega
    simp only [hne]
    cbv
    refine ⟨fun c9 hc9 => ?_⟩
    rw [wrap_id (n := xi + 1) (by ((try simp only [nc] at *); omega)) (by ((try simp only [nc] at *); omega))] at hc9
    have hc9' : c9 = ((1 : Nat) : Int) := by ((try simp only [nc] at *); omega)
    subst hc9'
    exact hK' _ 1 [some 0] (by cbv; repeat (first | exact trivial | refine ⟨.mk _, ?_⟩)) (by ((try simp only [nc] at *); omega)) (by ((try simp only [nc] at *); omega))
  · subst hx1
    refine ⟨fun b1 h1 => ?_⟩
    have hb1 : b1 = true := h1.2 (by ((try simp only [nc] at *); omega))
    subst hb1
    cbv
    refine ⟨by ((try simp only [nc] at *); omega), by ((try simp only [nc] at *); omega), fun j hj => ?_⟩
    have hjx : j = 1 := by ((try simp only [nc] at *); omega)
    subst hjx
    cbv
    refine .mk _ _ rfl rfl ?_
    cbv
    refine CallAt.use [] [] [.raw (.iface 145 (.pointer (some (ad g)))), .raw (.iface 145 (.pointer (some (ad 3))))] e25' (h25 R g 3 (by omega) (by omega) hA) rfl rfl rfl rfl ?_
    intro sv R5 H5 hres
    obtain ⟨rfl, hR5, rfl⟩ := hres
    obtain rfl := hR5.symm
    have hne : decide (g = 3) = false := by simp; omega
    simp only [hne]
    cbv
    refine ⟨fun c9 hc9 => ?_⟩
    rw [wrap_id (n := xi + 1) (by ((try simp only [nc] at *); omega)) (by ((try simp only [nc] at *); omega))] at hc9
    have hc9' : c9 = ((2 : Nat) : Int) := by ((try simp only [nc] at *); omega)
    subst hc9'
    exact hK' _ 2 [some 0] (by cbv; repeat (first | exact trivial | refine ⟨.mk _, ?_⟩)) (by ((try simp only [nc] at *); omega)) (by ((try simp only [nc] at *); omega))
  · subst hx2
    refine ⟨fun b1 h1 => ?_⟩
    have hb1 : b1 = true := h1.2 (by ((try simp only [nc] at *); omega))
    subst hb1
    cbv
    refine ⟨by ((try simp only [nc] at *); omega), by ((try simp only [nc] at *); omega), fun j hj => ?_⟩
    have hjx : j = 2 := by ((try simp only [nc] at *); omega)
    subst hjx
    cbv
    refine .mk _ _ rfl rfl ?_
    cbv
    refine CallAt.use [] [] [.raw (.iface 145 (.pointer (some (ad g)))), .raw (.iface 145 (.pointer (some (ad 0))))] e25' (h25 R g 0 (by omega) (by omega) hA) rfl rfl rfl rfl ?_
    intro sv R5 H5 hres
    obtain ⟨rfl, hR5, rfl⟩ := hres
    obtain rfl := hR5.symm
    rcases hg with hg | hg
    · subst hg
      have hne : decide (0 = 0) = true := rfl
      simp only [hne]
      cbv
      refine ⟨fun c9 hc9 => ?_⟩
      rw [wrap_id (n := xi + 1) (by ((try simp only [nc] at *); omega)) (by ((try simp only [nc] at *); omega))] at hc9
      cbv
      rw [← hK]
      refine ⟨?_, rfl, rfl⟩
      have hc9' : c9 = ((0 + 3 : Nat) : Int) := by ((try simp only [nc] at *); omega)
      rw [hc9']
      rfl
    · subst hg
      have hne : decide (1 = 0) = false := rfl
      simp only [hne]
      cbv
      refine ⟨fun c9 hc9 => ?_⟩
      rw [wrap_id (n := xi + 1) (by ((try simp only [nc] at *); omega)) (by ((try simp only [nc] at *); omega))] at hc9
      have hc9' : c9 = ((3 : Nat) : Int) := by ((try simp only [nc] at *); omega)
      subst hc9'
      exact hK' _ 3 [some 0] (by cbv; repeat (first | exact trivial | refine ⟨.mk _, ?_⟩)) (by ((try simp only [nc] at *); omega)) (by ((try simp only [nc] at *); omega))
  · have hg1 : g = 1 := by omega
    subst hg1
    subst hx3
    refine ⟨fun b1 h1 => ?_⟩
    have hb1 : b1 = true := h1.2 (by ((try simp only [nc] at *); omega))
    subst hb1
    cbv
    refine ⟨by ((try simp only [nc] at *); omega), by ((try simp only [nc] at *); omega), fun j hj => ?_⟩
    have hjx : j = 3 := by ((try simp only [nc] at *); omega)
    subst hjx
    cbv
    refine .mk _ _ rfl rfl ?_
    cbv
    refine CallAt.use [] [] [.raw (.iface 145 (.pointer (some (ad 1)))), .raw (.iface 145 (.pointer (some (ad 1))))] e25' (h25 R 1 1 (by omega) (by omega) hA) rfl rfl rfl rfl ?_
    intro sv R5 H5 hres
    obtain ⟨rfl, hR5, rfl⟩ := hres
    obtain rfl := hR5.symm
    have hne : decide (1 = 1) = true := rfl
    simp only [hne]
    cbv
    refine ⟨fun c9 hc9 => ?_⟩
    rw [wrap_id (n := xi + 1) (by ((try simp only [nc] at *); omega)) (by ((try simp only [nc] at *); omega))] at hc9
    cbv
    rw [← hK]
    refine ⟨?_, rfl, rfl⟩
    have hc9' : c9 = ((1 + 3 : Nat) : Int) := by ((try simp only [nc] at *); omega)
    rw [hc9']
    rfl
end Go.Proofs

namespace Go.Proofs
open Go Go.SX
set_option maxRecDepth 100000
theorem opI_zop (k : Int) (hk : 0 ≤ k ∧ k ≤ 999999) : OpI (Sc.zop k) :=
  ⟨I64_small hk, ⟨by simp [Sc.zop], by simp [Sc.zop]⟩, ⟨by simp [Sc.zop], by simp [Sc.zop]⟩, by simp [Sc.zop], by simp [Sc.zop], by simp [Sc.zop], by simp [Sc.zop]⟩
theorem ones_le : ∀ i, i ≤ 6 → 0 ≤ Sc.ones i ∧ Sc.ones i ≤ 111111 := by decide
set_option maxHeartbeats 8000000 in
theorem f6 (kit : Kit Tryd.prog) (mm : Int) (R : RO) (ad : Nat → Addr) (hgl : Gl R) (hA : GlA R ad) (hm1 : -9223372036854775808 ≤ mm) (hm2 : mm ≤ 9223372036854775807) : CallW Tryd.prog 6 [.raw (.int .i64 mm)] R [] (BoolRes R true) := by
  have e7' := e7
  have e8' := e8
  have e10' := e10
  have e13' := e13
  have h7 := f7 kit
  have h8 := f8 kit
  have h10 := f10 kit
  have h13 := f13
  refine CallW.shrink (vcF_ok Tryd.func6 c6 ?_)
  generalize hK : (fun (sv : SV) (_ : RO) (H' : List SObj) => BoolRes R true sv R H') = K
  revert e7' e8' e10' e13' h7 h8 h10 h13
  clear kit
  generalize Tryd.prog = P
  intro e7' e8' e10' e13' h7 h8 h10 h13
  have good : ∀ Rx, K (.raw (.bool true)) Rx [] := fun Rx => by rw [← hK]; exact ⟨rfl, rfl, rfl⟩
  cbv
  refine CallAt.use [] [] [] e7' (h7 R hgl) rfl rfl rfl rfl ?_
  intro sv R1 H1 hres
  obtain ⟨rfl, hR1, rfl⟩ := hres
  obtain rfl := hR1.symm
  cbv
  refine ⟨fun c1 hc1 => ?_⟩
  cbv
  refine ⟨by decide, ⟨fun c2 hc2 => ?_⟩⟩
  cbv
  refine ⟨fun c3 hc3 => ?_⟩
  cbv
  refine ⟨fun mo hmo => ?_⟩
  cbv
  have hc1b : 0 ≤ c1 := by rw [hc1]; simp [IntKind.wrap, IntKind.bits, IntKind.signed]; omega
  have hc2b : 0 ≤ c2 ∧ c2 ≤ 8 := by rw [hc2, Int.tmod_eq_emod_of_nonneg hc1b]; omega
  rw [wrap_id (by omega) (by omega)] at hc3
  rw [wrap_id (by omega) (by omega)] at hmo
  have hmob : -4 ≤ mo ∧ mo ≤ 4 := by omega
  clear hc1 hc2 hc3 hmo hc1b hc2b
  refine loop_at (fun s (x : Nat × List Value × Nat × Nat) => { s with tm := (s.tm.put 3 (.sl 0 0 0 6 x.2.2.1 x.2.2.2)).put 4 (.raw (.int .i64 ((7 * x.1 : Nat) : Int))), heap := [.buf x.2.1 6 32] })
    (fun x => (7 * x.1 : Int) < 65528 + mo ∧ OpsV R (List.replicate x.1 (Sc.zop 4)) x.2.1 ∧ x.2.2.1 = x.2.1.length ∧ x.2.2.1 ≤ x.2.2.2)
    (fun x => 20000 - x.1) (0, [], 0, 0) [some 0] (by cbv; repeat (first | exact trivial | refine ⟨.mk _, ?_⟩)) ⟨by omega, .nil, rfl, Nat.le_refl _⟩ ?_
  rintro ⟨k, es, n, m⟩ ⟨hkb, hops, hn, hnm⟩ K' hK'
  simp only at hkb hops hn hnm hK' ⊢
  obtain ⟨ki, hki⟩ : ∃ ki : Int, ki = ((7 * k : Nat) : Int) := ⟨_, rfl⟩
  rw [← hki]
  have hel : es.length = k := by rw [hops.len, List.length_replicate]
  have hk1 : k ≤ 10000 := by omega
  cbv
  refine ⟨fun d1 hd1 => ?_⟩
  rw [wrap_id (by ((try simp only [nc] at *); omega)) (by ((try simp only [nc] at *); omega))] at hd1
  cbv
  refine ⟨fun d2 hd2 => ?_⟩
  rw [wrap_id (by ((try simp only [nc] at *); omega)) (by ((try simp only [nc] at *); omega))] at hd2
  cbv
  refine ⟨fun b1 h1 => ?_⟩
  cases b1
  rotate_left
  · have hlt : d1 < d2 := h1.1 rfl
    cbv
    refine ⟨_, rfl, rfl, ?_⟩
    cbv
    refine ⟨hn, ?_⟩
    refine ⟨by simp; ((try simp only [nc] at *); omega), fun es2 n3 m3 he hn3 hm3 => ?_⟩
    cbv
    refine ⟨fun d3 hd3 => ?_⟩
    rw [wrap_id (by ((try simp only [nc] at *); omega)) (by ((try simp only [nc] at *); omega))] at hd3
    have hd3' : d3 = ((7 * (k + 1) : Nat) : Int) := by ((try simp only [nc] at *); omega)
    subst hd3'
    refine hK' _ (k + 1, es2, n3, m3) [some 2] (by cbv; repeat (first | exact trivial | refine ⟨.mk _, ?_⟩)) ⟨by ((try simp only [nc] at *); omega), ?_, hn3, hm3⟩ (by ((try simp only [nc] at *); omega))
    rw [he, List.replicate_succ']
    exact hops.snoc ⟨4, 0, 0, .slice none 0 0, .slice none 0 0, .slice none 0 0, rfl, rfl, rfl, rfl, .nil 1 none, .nil 1 none, .nil 1 none⟩
  have hge : ¬ d1 < d2 := fun h => by cases h1.2 h
  have hkn : n = k := hn.trans hel
  cbv
  refine ⟨fun g1 hg1 => ?_⟩
  rw [wrap_id (by ((try simp only [nc] at *); omega)) (by ((try simp only [nc] at *); omega))] at hg1
  cbv
  refine ⟨fun g2 hg2 => ?_⟩
  rw [wrap_id (by ((try simp only [nc] at *); omega)) (by ((try simp only [nc] at *); omega))] at hg2
  cbv
  refine ⟨fun re hre => ?_⟩
  rw [wrap_id (by ((try simp only [nc] at *); omega)) (by ((try simp only [nc] at *); omega))] at hre
  cbv
  refine ⟨fun b2 h2 => ?_⟩
  have hb2 : b2 = false := by
    cases b2
    · rfl
    · have := h2.1 rfl; ((try simp only [nc] at *); omega)
  subst hb2
  cbv
  refine ⟨fun b3 h3 => ?_⟩
  have hb3 : b3 = false := by
    cases b3
    · rfl
    · have := h3.1 rfl; ((try simp only [nc] at *); omega)
  subst hb3
  cbv
  refine ⟨fun b4 h4 => ?_⟩
  cases b4
  rotate_left
  · cbv
    exact good _
  have hre6 : ¬ 6 < re := fun h => by cases h4.2 h
  obtain ⟨r, hr⟩ : ∃ r : Nat, re = r := ⟨re.toNat, by ((try simp only [nc] at *); omega)⟩
  have hr1 : 1 ≤ r := by ((try simp only [nc] at *); omega)
  have hr2 : r ≤ 6 := by ((try simp only [nc] at *); omega)
  obtain ⟨ls, hls, hlen⟩ := Sc.long_law k r hr1 hr2
  have hlen' : (Sc.flatN ls).length = (65535 + mo).toNat := by rw [hlen]; ((try simp only [nc] at *); omega)
  clear h1 h2 h3 h4 hK' K'
  cbv
  refine loop_at (fun s (x : Nat × Int) => { s with tm := s.tm.put 47 (.raw (.int .i64 x.1)), heap := [.buf es 6 32, .cells (opC 2 0 x.2 (.slice none 0 0) (.slice none 0 0) (.slice none 0 0)) 32] })
    (fun x => x.1 ≤ r ∧ x.2 = Sc.ones x.1) (fun x => r - x.1) (0, 0) [some 0, some 1] (by cbv; repeat (first | exact trivial | refine ⟨.mk _, ?_⟩)) ⟨by omega, rfl⟩ ?_
  rintro ⟨i, on⟩ ⟨hir, hon⟩ K' hK'
  simp only at hir hon hK' ⊢
  obtain ⟨ii, hii⟩ : ∃ ii : Int, ii = i := ⟨_, rfl⟩
  rw [← hii]
  have hob := ones_le i (by omega)
  rw [← hon] at hob
  cbv
  refine ⟨fun b1 h1 => ?_⟩
  cases b1
  rotate_left
  · have hlt : ii < re := h1.1 rfl
    cbv
    refine ⟨fun d1 hd1 => ?_⟩
    rw [wrap_id (by ((try simp only [nc] at *); omega)) (by ((try simp only [nc] at *); omega))] at hd1
    cbv
    refine ⟨fun d2 hd2 => ?_⟩
    rw [wrap_id (by ((try simp only [nc] at *); omega)) (by ((try simp only [nc] at *); omega))] at hd2
    cbv
    refine ⟨fun d3 hd3 => ?_⟩
    rw [wrap_id (by ((try simp only [nc] at *); omega)) (by ((try simp only [nc] at *); omega))] at hd3
    have hd3' : d3 = ((i + 1 : Nat) : Int) := by ((try simp only [nc] at *); omega)
    subst hd3'
    refine hK' _ (i + 1, d2) [some 0, some 1] (by cbv; repeat (first | exact trivial | refine ⟨.mk _, ?_⟩)) ⟨by ((try simp only [nc] at *); omega), ?_⟩ (by ((try simp only [nc] at *); omega))
    rw [show Sc.ones (i + 1) = 10 * Sc.ones i + 1 from rfl]
    ((try simp only [nc] at *); omega)
  have hge2 : ¬ ii < re := fun h => by cases h1.2 h
  have hie : i = r := by ((try simp only [nc] at *); omega)
  subst hie
  clear h1
  cbv
  refine ⟨_, rfl, rfl, ?_⟩
  cbv
  refine ⟨hn, ?_⟩
  refine ⟨by simp; ((try simp only [nc] at *); omega), fun es2 n3 m3 he hn3 hm3 => ?_⟩
  have hops2 : OpsV R (List.replicate k (Sc.zop 4) ++ [Sc.dropO i]) es2 := by
    rw [he]
    exact hops.snoc ⟨2, 0, on, .slice none 0 0, .slice none 0 0, .slice none 0 0, rfl, rfl, rfl, hon.symm, .nil 1 none, .nil 1 none, .nil 1 none⟩
  have hel2 : es2.length = k + 1 := by rw [hops2.len]; simp
  have hoi : ∀ o ∈ List.replicate k (Sc.zop 4) ++ [Sc.dropO i], OpI o := by
    intro o ho
    rcases List.mem_append.1 ho with h | h
    · rw [(List.mem_replicate.1 h).2]; exact opI_zop 4 (by omega)
    · rw [List.mem_singleton.1 h]
      exact { opI_zop 2 (by omega) with n := I64_small (by show 0 ≤ Sc.ones i ∧ Sc.ones i ≤ 999999; omega) }
  cbv
  refine .mk e10' (CallW.frz1 es2 rfl (by simp [hn3]) hn3.symm fun R2 q2 hs2 hr2 => ?_)
  have hgl2 := hgl.mono hs2
  have hA2 := hA.mono hs2
  refine frame [] [] [.raw (.slice q2 n3 m3)] (h10 _ _ es2 R2 hgl2 hr2 (hops2.mono hs2) hoi (by simp; omega)) rfl rfl rfl rfl ?_
  intro sv R' H' hres
  apply W.out
  obtain ⟨t, e, rfl, hR', rfl, htx⟩ := hres
  obtain rfl := hR'.symm
  refine ⟨?_⟩
  cbv
  refine ⟨fun b5 h5 => ?_⟩
  have hopl : (List.replicate k (Sc.zop 4) ++ [Sc.dropO i]).length = k + 1 := by simp
  cases b5
  rotate_left
  · have hpos : 0 < mo := h5.1 rfl
    have htl : Sc.textL (List.replicate k (Sc.zop 4) ++ [Sc.dropO i]) = .error 2 := Sc.text_long [] hls (by simp) (by rw [List.nil_append]; omega)
    obtain ⟨ht0, rfl⟩ : t.data.toList = [] ∧ e = .iface 145 (.pointer (some (ad 0))) := by
      rcases htx with ⟨h, _⟩ | ⟨h, _⟩ | ⟨_, h, g, _⟩
      · rw [htl] at h; cases h
      · rw [htl] at h; cases h
      · exact ⟨h, g.trans (hA2.glV (by decide))⟩
    clear htx
    cbv
    refine ⟨fun b6 h6 => ?_⟩
    have hb6 : b6 = true := h6.2 (bstr_eq.2 ht0)
    subst hb6
    cbv
    refine CallAt.use [] [] [.raw (.iface 145 (.pointer (some (ad 0))))] e13' (h13 R2 ad hA2 0 (Or.inl rfl)) rfl rfl rfl rfl ?_
    intro sv R3 H3 hres
    obtain ⟨rfl, hR3, rfl⟩ := hres
    obtain rfl := hR3.symm
    cbv
    refine ⟨fun b7 h7 => ?_⟩
    have hb7 : b7 = true := h7.2 rfl
    subst hb7
    cbv
    exact good _
  · have hpos : ¬ 0 < mo := fun h => by cases h5.2 h
    have htl : Sc.textL (List.replicate k (Sc.zop 4) ++ [Sc.dropO i]) = .ok (Sc.flatN ls) := by
      have := Sc.text_ok [] hls (by rw [List.nil_append]; omega)
      rwa [List.nil_append] at this
    obtain ⟨ht0, rfl⟩ : t.data.toList = Sc.flatN ls ∧ e = .nilIface := by
      rcases htx with ⟨h, g⟩ | ⟨h, _⟩ | ⟨h, _⟩
      · rw [htl] at h; injection h with h; exact ⟨h.symm, g⟩
      · rw [htl] at h; cases h
      · rw [htl] at h; cases h
    clear htx
    have htn : t.data.toList.length = (65535 + mo).toNat := by rw [ht0]; exact hlen'
    have hpa : Sc.parseL t.data.toList = some ((List.replicate k (Sc.zop 4) ++ [Sc.dropO i]).map Sc.plain) := by rw [ht0]; exact Sc.parse_flat hls
    have hzt := bsize t
    have hz7 : (⟨⟨[116, 105, 99, 107, 32, 48, 10]⟩⟩ : ByteArray).size = 7 := rfl
    cbv
    refine CallAt.use [] [] [.raw (.string t)] e8' (h8 t R2 hgl2) rfl rfl rfl rfl ?_
    intro sv R3 H3 hres
    apply W.out
    obtain ⟨q4, n4, c4, e4, es4, rfl, rfl, hs4, hr4, hn4, hp4⟩ := hres.shape hgl2
    obtain ⟨rfl, hv4⟩ : e4 = .nilIface ∧ OpsV R3 ((List.replicate k (Sc.zop 4) ++ [Sc.dropO i]).map Sc.plain) es4 := by
      rcases hp4 with ⟨_, _, _, h | h⟩ | ⟨_, ops, h, he, ho⟩
      · omega
      · rw [hpa] at h; cases h
      · rw [hpa] at h; cases h; exact ⟨he, ho⟩
    have hl4 : n4 = k + 1 := by rw [hn4, hv4.len, List.length_map, hopl]
    have hgl3 := hgl2.mono hs4
    have hA3 := hA2.mono hs4
    refine ⟨?_⟩
    cbv
    refine ⟨by rw [hz7]; omega, ⟨fun t2 ht2 => ?_⟩⟩
    have ht2l : t2.data.toList = t.data.toList ++ [116, 105, 99, 107, 32, 48, 10] := by rw [ht2]; simp
    have ht2n : t2.data.toList.length = t.data.toList.length + 7 := by rw [ht2l, List.length_append]; rfl
    cbv
    refine CallAt.use [] [] [.raw (.string t2)] e8' (h8 t2 R3 hgl3) rfl rfl rfl rfl ?_
    intro sv R4 H4 hres
    apply W.out
    unfold ParseRes at hres
    obtain ⟨v5, e5, es5, rfl, rfl, hs5, hr5, hp5⟩ := hres
    obtain rfl : e5 = .iface 145 (.pointer (some (ad 0))) := by
      rcases hp5 with ⟨_, _, h⟩ | ⟨h, _⟩ | ⟨h, _⟩
      · exact h.trans (hA3.glV (by decide))
      · omega
      · omega
    clear hp5
    have hA4 := hA3.mono hs5
    refine ⟨?_⟩
    cbv
    refine ⟨fun c5 hc5 => ?_⟩
    have hc5' : c5 = 65535 + mo := by rw [hc5, bsize, htn]; simp only [zN]; omega
    cbv
    refine ⟨fun c6 hc6 => ?_⟩
    rw [wrap_id (by ((try simp only [nc] at *); omega)) (by ((try simp only [nc] at *); omega))] at hc6
    cbv
    refine ⟨fun b6 h6 => ?_⟩
    have hb6 : b6 = true := h6.2 (by rw [hc5', hc6])
    subst hb6
    cbv
    refine ⟨fun c7 hc7 => ?_⟩
    cbv
    refine ⟨fun c8 hc8 => ?_⟩
    cbv
    refine ⟨fun b7 h7 => ?_⟩
    have hb7 : b7 = true := h7.2 (by rw [hc7, hc8, hl4, hn3, hel2])
    subst hb7
    cbv
    refine CallAt.use [] [] [.raw (.iface 145 (.pointer (some (ad 0))))] e13' (h13 R4 ad hA4 0 (Or.inl rfl)) rfl rfl rfl rfl ?_
    intro sv R6 H6 hres
    obtain ⟨rfl, hR6, rfl⟩ := hres
    obtain rfl := hR6.symm
    cbv
    refine ⟨fun b8 h8' => ?_⟩
    have hb8 : b8 = true := h8'.2 rfl
    subst hb8
    cbv
    exact good _
end Go.Proofs

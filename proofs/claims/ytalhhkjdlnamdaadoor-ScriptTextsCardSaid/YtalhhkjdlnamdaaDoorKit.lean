/-
  The library's contracts that the walks ask, at this program.
-/
import Derived.Test.YtalhhkjdlnamdaaDoorShelf
import Derived.Shelf.Strings.Builder1
import Derived.Shelf.RegionOpenPlain
import Derived.Lib.Builder
import Derived.Lib.UnsafeStr
import Derived.WalkKit
import Derived.Laws.Externs
import Derived.Test.YtalhhkjdlnamdaaDoorWb
import Derived.Lib.AppendIntMem
import Derived.Lib.SplitLaws
import Derived.Lib.IndexBytes
namespace Go.Proofs
open Go.Shelf Go.RowKit
theorem Tryd.sz63' : (Tryd.prog.info? 63).map (·.size) = some 2 := by kernel_rfl
theorem Tryd.sz63 : ∃ j, Tryd.prog.info? 63 = some j ∧ j.size = 2 := by
  obtain ⟨j, h1, h2⟩ := Option.map_eq_some_iff.1 Tryd.sz63'
  exact ⟨j, h1, h2⟩
set_option maxHeartbeats 1000000 in
set_option maxRecDepth 100000 in
theorem cc_used (b : Nat) (w : World) (h0 : w.cell? ⟨b, 0, none⟩ = some (.pointer (some ⟨b, 0, none⟩))) :
    Calls Tryd.prog 36 #[.pointer (some ⟨b, 0, none⟩)] w fun e w' => e = .returned (.tuple #[]) ∧ w' = w := by
  obtain ⟨j, hj, _⟩ := Tryd.sz63
  go_enter Tryd.func36, Tryd.ntmps36
  go_wp2
  rw [Lib.run_neq_ptr_same w _ Tryd.underlying61 hj]
  go_wp2
  go_end0
  exact ⟨rfl, rfl⟩
set_option maxHeartbeats 1000000 in
set_option maxRecDepth 100000 in
theorem cc_fresh (b : Nat) (w : World) (h0 : w.cell? ⟨b, 0, none⟩ = some (.pointer none)) (hsh : w.shape? b = some (63, 2)) (hfz : w.frozen? ⟨b, 0, none⟩ = false) :
    Calls Tryd.prog 36 #[.pointer (some ⟨b, 0, none⟩)] w fun e w' => e = .returned (.tuple #[]) ∧ w' = w.setCell ⟨b, 0, none⟩ (.pointer (some ⟨b, 0, none⟩)) := by
  obtain ⟨j, hj, hjs⟩ := Tryd.sz63
  go_enter Tryd.func36, Tryd.ntmps36
  go_wp2
  rw [Lib.run_to_unsafe w ⟨b, 0, none⟩ Tryd.underlying61 Tryd.underlying98 hj (by rw [hjs]; decide) hsh (Nat.zero_lt_succ 1)]
  simp only [Result.andThen]
  rw [Oper.upon_value]
  go_wp2
  rw [run_callFunc_extern Tryd.func50 (by kernel_rfl) (by kernel_rfl) (by kernel_rfl) (e := Extern.AbiNoEscape.same) (by kernel_rfl)]
  rw [Lib.run_noEscape]
  simp only [Result.andThen]
  rw [Oper.upon_value]
  go_wp2
  rw [Lib.run_from_unsafe w ⟨b, 0, none⟩ Tryd.underlying98 Tryd.underlying61 hj hsh (by kernel_rfl)]
  simp only [Result.andThen]
  rw [Oper.upon_value]
  go_wp2
  go_end0
  exact ⟨rfl, rfl⟩
end Go.Proofs

namespace Go.Proofs
open Go.Shelf Go.RowKit
theorem liesAt_off {P : Program} {e : TypeId} (hc : P.cellsOf e = 1) (count o n : Nat) (hn : o + n ≤ count) : liesAt P P.depth e count o e n = true := by
  have hd : P.depth = (2 * (P.types.size + Made.depth) + 1) + 1 := rfl
  rw [hd]
  simp only [liesAt, Bool.or_eq_true]
  left
  rw [hd]
  simp [rowAt, hc, sameLayout]
  omega
theorem dec_no {q : Prop} {α : Type} (A : ¬ q → α) (B : q → α) (d : Decidable q) (h : ¬ q) : Decidable.rec (motive := fun _ => α) A B d = A h := by
  cases d with
  | isFalse _ => rfl
  | isTrue h' => exact absurd h' h
theorem unsafeString_at {P : Program} (w : World) (pt it ty e : TypeId) (hp : P.underlying pt = some (.pointer e)) (hc : P.cellsOf e = 1) (g o cells : Nat) (hsh : w.shape? g = some (e, cells)) (l : List UInt8) (h0 : l ≠ []) (hn : o + l.length ≤ cells) (h63 : l.length ≤ 9223372036854775807)
    (hcell : ∀ (j : Nat) x, l[j]? = some x → w.cell? ((⟨g, o, none⟩ : Addr).add j) = some (.int .u8 x.toNat)) (m : Int) (hm : m = l.length) :
    (Builtin.unsafeString_ #[pt, it] ty #[.pointer (some ⟨g, o, none⟩), .int .i64 m]).run P w = .ok (.string ⟨l.toArray⟩) (w.freeze ⟨g, o, none⟩ l.length) := by
  subst hm
  have hl : l.length ≠ 0 := by simpa using h0
  have hlb := Lib.run_loadBytes (P := P) w l ⟨g, o, none⟩ .empty hcell
  have hlies := liesAt_off (P := P) hc (cells / P.cellsOf e) o l.length (by rw [hc]; simpa using hn)
  have h63' : ¬ (9223372036854775807 : Int) < (l.length : Int) := by omega
  have hmax : IntKind.i64.max = 9223372036854775807 := rfl
  have hneg : ¬ (l.length : Int) < 0 := by omega
  conv => lhs; arg 2; whnf
  refine (congrArg (fun x => Sem.run P x w) (dec_no _ _ _ ?_)).trans ?_
  · exact h63'
  simp [asInt, asIntOf, hmax, h63', hneg, hl, variablesAt, hsh, elemOf, run_underlying hp, hlies, hlb]

section
variable {P : Program} {ρ : Ren}
set_option maxHeartbeats 2000000 in
set_option maxRecDepth 100000 in
theorem str_used' (L : Lays.n169 P ρ) (X : Builder.Extra P ρ) (b g o cap : Nat) (p : Value) (l : List UInt8) (cells : Nat) (w : World) (hbk : w.heap[b]? = some (.cells #[p, .slice (some ⟨g, o, none⟩) l.length cap] (ρ.t 72) (0, 0))) (h0 : l ≠ []) (hcap : cap ≠ 0) (h63 : l.length ≤ 9223372036854775807)
    (hsh : w.shape? g = some (ρ.t 5, cells)) (hn : o + l.length ≤ cells) (hcell : ∀ (j : Nat) x, l[j]? = some x → w.cell? ((⟨g, o, none⟩ : Addr).add j) = some (.int .u8 x.toNat)) :
    Calls P (ρ.f 169) #[.pointer (some ⟨b, 0, none⟩)] w fun e w' => e = .returned (.string ⟨l.toArray⟩) ∧ w' = w.drew.freeze ⟨g, o, none⟩ l.length := by
  have c1 : w.drew.cell? ⟨b, 1, none⟩ = some (.slice (some ⟨g, o, none⟩) l.length cap) := by
    have : w.drew.heap[b]? = some (.cells #[p, .slice (some ⟨g, o, none⟩) l.length cap] (ρ.t 72) (0, 0)) := hbk
    rw [Lib.cell_of_heap this]; rfl
  have hSD : (Builtin.unsafeSliceData_ #[(ρ.t 37)] (ρ.t 127) #[.slice (some ⟨g, o, none⟩) l.length cap]).run P w.drew = .ok (.pointer (some ⟨g, o, none⟩)) w.drew :=
    Lib.run_unsafeSliceData_row _ _ _ _ _ _ hcap
  have hUS : (Builtin.unsafeString_ #[(ρ.t 127), (ρ.t 3)] (ρ.t 9) #[.pointer (some ⟨g, o, none⟩), .int .i64 l.length]).run P w.drew = .ok (.string ⟨l.toArray⟩) (w.drew.freeze ⟨g, o, none⟩ l.length) :=
    unsafeString_at w.drew (ρ.t 127) (ρ.t 3) (ρ.t 9) (ρ.t 5) L.t127 X.cellsByte g o cells hsh l h0 hn h63 hcell _ rfl
  clear hcell hsh hn h63 hcap h0 hbk
  have mixed := L.mixed
  have t72 := L.t72; have a72 := L.a72; have z72 := L.z72; have v72 := L.v72; have u72 := run_underlying L.t72
  have t70 := L.t70; have a70 := L.a70; have z70 := L.z70; have v70 := L.v70; have u70 := run_underlying L.t70
  have t37 := L.t37; have a37 := L.a37; have z37 := L.z37; have v37 := L.v37; have u37 := run_underlying L.t37
  have t127 := L.t127; have a127 := L.a127; have z127 := L.z127; have v127 := L.v127; have u127 := run_underlying L.t127
  have t3 := L.t3; have a3 := L.a3; have z3 := L.z3; have v3 := L.v3; have u3 := run_underlying L.t3
  have t9 := L.t9; have a9 := L.a9; have z9 := L.z9; have v9 := L.v9; have u9 := run_underlying L.t9
  go_enter L.f169, Body.n169_ntmps ρ
  go_wp2
  go_region_o
  all_goals (go_wp2; go_ret; exact ⟨rfl, rfl⟩)
set_option maxHeartbeats 2000000 in
set_option maxRecDepth 100000 in
theorem str_fresh' (L : Lays.n169 P ρ) (X : Builder.Extra P ρ) (b : Nat) (p : Value) (w : World) (hbk : w.heap[b]? = some (.cells #[p, .slice none 0 0] (ρ.t 72) (0, 0))) :
    Calls P (ρ.f 169) #[.pointer (some ⟨b, 0, none⟩)] w fun e w' => e = .returned (.string ⟨#[]⟩) ∧ w' = w.drew := by
  have hUS := Any.unsafeString_none L X
  have c1 : w.drew.cell? ⟨b, 1, none⟩ = some (.slice none 0 0) := by
    have : w.drew.heap[b]? = some (.cells #[p, .slice none 0 0] (ρ.t 72) (0, 0)) := hbk
    rw [Lib.cell_of_heap this]; rfl
  have hSD : (Builtin.unsafeSliceData_ #[(ρ.t 37)] (ρ.t 127) #[.slice none 0 0]).run P w.drew = .ok (.pointer none) w.drew := rfl
  clear hbk
  have mixed := L.mixed
  have t72 := L.t72; have a72 := L.a72; have z72 := L.z72; have v72 := L.v72; have u72 := run_underlying L.t72
  have t70 := L.t70; have a70 := L.a70; have z70 := L.z70; have v70 := L.v70; have u70 := run_underlying L.t70
  have t37 := L.t37; have a37 := L.a37; have z37 := L.z37; have v37 := L.v37; have u37 := run_underlying L.t37
  have t127 := L.t127; have a127 := L.a127; have z127 := L.z127; have v127 := L.v127; have u127 := run_underlying L.t127
  have t3 := L.t3; have a3 := L.a3; have z3 := L.z3; have v3 := L.v3; have u3 := run_underlying L.t3
  have t9 := L.t9; have a9 := L.a9; have z9 := L.z9; have v9 := L.v9; have u9 := run_underlying L.t9
  go_enter L.f169, Body.n169_ntmps ρ
  go_wp2
  go_region_o
  all_goals (go_wp2; go_ret; exact ⟨rfl, rfl⟩)
end
end Go.Proofs

namespace Go.Proofs
open Go Go.SX Go.Shelf Go.RowKit
theorem k28 (s : ByteArray) (c : UInt8) (n : Int) (R : RO) (hn : n = zN c.toNat) : CallW Tryd.prog 28 [.raw (.string s), .raw (.int .u8 n)] R [] (fun sv R' H' => sv = .raw (.int .i64 (Lib.indexByte s.data.toList c)) ∧ R' = R ∧ H' = []) := by
  refine CallW.kit (vs := [.string s, .int .u8 n]) fun w _ => (Tryd.strings_IndexByte s n w).mono ?_
  rintro e w' ⟨rfl, rfl⟩
  have : n.toNat.toUInt8 = c := by
    have : n = (c.toNat : Int) := hn
    subst this
    simp
  exact ⟨by rw [this], Below.refl _ _⟩
theorem k54 (s : ByteArray) (c : UInt8) (R : RO) : CallW Tryd.prog 54 [.raw (.string s), .raw (.string ⟨#[c]⟩)] R [] (fun sv R' H' => sv = .raw (.int .i64 (Lib.indexByte s.data.toList c)) ∧ R' = R ∧ H' = []) := by
  refine CallW.kit (vs := [.string s, .string ⟨#[c]⟩]) fun w _ => (Tryd.strings_Index_one s c w).mono ?_
  rintro e w' ⟨rfl, rfl⟩
  exact ⟨rfl, Below.refl _ _⟩
theorem k16 (s : ByteArray) (R : RO) (hs : s.size ≤ 2 ^ 30) : CallW Tryd.prog 16 [.raw (.string s), .raw (.string ⟨#[10]⟩)] R [] (fun sv R' H' => sv = .raw (.tuple #[.string ⟨(Lib.trimSuffix s.data.toList [10]).toArray⟩, .bool (Lib.hasSuffix s.data.toList [10])]) ∧ R' = R ∧ H' = []) := by
  refine CallW.kit (vs := [.string s, .string ⟨#[10]⟩]) fun w _ => (Tryd.strings_CutSuffix s ⟨#[10]⟩ w (by omega)).mono ?_
  rintro e w' ⟨rfl, rfl⟩
  exact ⟨rfl, Below.refl _ _⟩
theorem k47 (n : Int) (R : RO) (h0 : -9223372036854775808 ≤ n) (h1 : n ≤ 9223372036854775807) (hgl : Gl R) : CallW Tryd.prog 47 [.raw (.int .i64 n)] R [] (fun sv R' H' => sv = .raw (.string ⟨(Lib.itoa n).toArray⟩) ∧ R' = R ∧ H' = []) := by
  refine CallW.kit (vs := [.int .i64 n]) fun w hw => (Tryd.strconv_Itoa n h0 h1 w (hgl.pow w hw)).mono ?_
  rintro e w' ⟨rfl, k, os, rfl⟩
  exact ⟨rfl, Lib.below_grow _ w (Nat.le_refl _) k os⟩
theorem strV_flat : ∀ ws : List ByteArray, (strV ws).flatMap vcells = strV ws
  | [] => rfl
  | x :: r => by
    have := strV_flat r
    simp only [strV, List.map_cons, List.flatMap_cons] at *
    rw [this]; rfl
theorem k49 (v : Value) (ws : List ByteArray) (R : RO) (hr : ROSl R v (strV ws) 1) (hj : (Lib.join (ws.map fun (w : ByteArray) => w.data.toList) [44]).length ≤ 2 ^ 30) (hl : ws.length ≤ 2 ^ 30) :
    CallW Tryd.prog 49 [.raw v, .raw (.string ⟨#[44]⟩)] R [] (fun sv R' H' => sv = .raw (.string ⟨(Lib.join (ws.map fun (w : ByteArray) => w.data.toList) [44]).toArray⟩) ∧ R' = R ∧ H' = []) := by
  refine CallW.kit (vs := [v, .string ⟨#[44]⟩]) fun w hw => ?_
  rcases hr with ⟨k, o, cap, arr, e, fr, pre, post, rfl, h2, h3, h4, h5, h6⟩ | ⟨h1, q, rfl⟩
  · have hk := hw k _ h3
    have hfl := strV_flat ws
    rw [hfl] at h4
    have := Tryd.strings_Join k o cap ws ⟨#[44]⟩ w (fun j x hx => by
        have hlt := (List.getElem?_eq_some_iff.1 hx).1
        have := cells_get hk h4 h5 (j := j) (by simp [strV]; exact hlt)
        rw [this]; simp [strV, hx]) (Array.getElem?_eq_some_iff.1 hk).1 (by omega) (by simpa [strV] using h2) (by have e : (⟨#[44]⟩ : ByteArray).data.toList = [44] := rfl; rw [e]; omega)
    rw [show (strV ws).length = ws.length by simp [strV]]
    refine this.mono ?_
    rintro e w' ⟨rfl, hb⟩
    exact ⟨rfl, hb⟩
  · have hws : ws = [] := by simpa [strV] using h1
    subst hws
    refine (Tryd.strings_Join_none q 0 ⟨#[44]⟩ w).mono ?_
    rintro e w' ⟨rfl, rfl⟩
    exact ⟨rfl, Below.refl _ _⟩
theorem split_one (c : UInt8) : ∀ (k : Nat) (l : List UInt8), l.count c = k → Lib.splitK [c] 0 k l = Sc.spl c l
  | 0, l, h => by
    have : c ∉ l := List.count_eq_zero.1 h
    rw [Sc.spl_none this]; rfl
  | k + 1, l, h => by
    have hm : c ∈ l := List.count_pos_iff.1 (by omega)
    unfold Lib.splitK
    rw [Lib.index_one]
    rcases Sc.idx_cut l c with ⟨h1, h2⟩ | ⟨h1, h2, h3, h4⟩
    · exact absurd hm h2
    · rw [if_neg (by simp; omega), Sc.spl_idx h1]
      have hc : (l.drop ((Lib.indexByte l c).toNat + 1)).count c = k := by
        rw [h4, List.count_append, List.count_eq_zero.2 h3, List.count_cons_self] at h
        omega
      rw [show (Lib.indexByte l c).toNat + [c].length = (Lib.indexByte l c).toNat + 1 from rfl, split_one c k _ hc]
      rfl
theorem k30 (s : ByteArray) (R : RO) (hs : s.size ≤ 2 ^ 30) (hgl : Gl R) : CallW Tryd.prog 30 [.raw (.string s), .raw (.string ⟨#[32]⟩)] R []
    (fun sv R' H' => ∃ v ws, sv = .raw v ∧ H' = [] ∧ SubRO R R' ∧ ROSl R' v (strV ws) 1 ∧ ws.map (fun (w : ByteArray) => w.data.toList) = Sc.spl 32 s.data.toList) := by
  obtain ⟨m, hm⟩ := hgl.max
  refine (CallW.kitAlloc (vs := [.string s, .string ⟨#[32]⟩]) (g := fun k => .slice (some ⟨k, 0, none⟩) (Lib.countB s ⟨#[32]⟩ + 1) (Lib.countB s ⟨#[32]⟩ + 1))
    (o := .cells ((Lib.splitB ⟨#[32]⟩ 0 (Lib.countB s ⟨#[32]⟩) s).map Value.string).toArray 9) fun w hw => Tryd.strings_Split s ⟨#[32]⟩ m w (by omega) (hm w hw) (Nat.le_refl _)).mono ?_
  rintro sv R' H' ⟨k, h1, h2, rfl, rfl⟩
  have hlen := Lib.splitB_all ⟨#[32]⟩ (Nat.le_refl _) 0 _ s rfl
  refine ⟨_, Lib.splitB ⟨#[32]⟩ 0 (Lib.countB s ⟨#[32]⟩) s, rfl, rfl, h2, .inl ⟨k, 0, Lib.countB s ⟨#[32]⟩ + 1, _, _, _, [], [], ?_, ?_, h1, ?_, rfl, ?_⟩, ?_⟩
  · rw [show (strV (Lib.splitB ⟨#[32]⟩ 0 (Lib.countB s ⟨#[32]⟩) s)).length = Lib.countB s ⟨#[32]⟩ + 1 by simp [strV, hlen]]
  · simp [strV, hlen]
  · rw [strV_flat]; simp [strV]
  · intro v hv
    simp only [strV, List.mem_map] at hv
    obtain ⟨x, _, rfl⟩ := hv
    exact ⟨fun _ => rfl, fun h => absurd rfl h⟩
  · rw [Lib.splitB_data]
    exact split_one 32 _ _ (Lib.count_one 32 s.data.toList).symm
end Go.Proofs

namespace Go.Proofs
open Go Go.SX Go.Shelf Go.RowKit
theorem two_inv {T : List Blk} {x y : SV} {arr : Array Value} (h : DC T (.cons 1 x (.cons 1 y .nil)) arr.toList) : ∃ u v, arr = #[u, v] ∧ DV T x u ∧ DV T y v ∧ scal u = true ∧ scal v = true := by
  obtain ⟨l⟩ := arr
  change DC T _ l at h
  cases h with
  | one p1 s1 r1 =>
    cases r1 with
    | one p2 s2 r2 => cases r2; exact ⟨_, _, rfl, p1, p2, s1, s2⟩
    | many k => exact absurd rfl k
  | many k => exact absurd rfl k
theorem one_inv {T : List Blk} {x : SV} {vs : List Value} (h : DL T (toSC [x]) vs) : ∃ v, vs = [v] ∧ DV T x v := by
  cases h with
  | cons p q => cases q; exact ⟨_, rfl, p⟩

theorem frz_w (w : World) (a : Addr) (n : Nat) : (w.drew.freeze a n).os = w.os ∧ (w.drew.freeze a n).tape = w.tape ∧ (w.drew.freeze a n).output = w.output ∧ (w.drew.freeze a n).heap.size = w.heap.size ∧
    (∀ k, k ≠ a.block → (w.drew.freeze a n).heap[k]? = w.heap[k]?) := by
  rw [← heap_drew w]
  unfold World.freeze
  split
  · exact ⟨rfl, rfl, rfl, rfl, fun _ _ => rfl⟩
  · refine ⟨rfl, rfl, rfl, by simp, fun k hk => ?_⟩
    simp only [Array.getElem?_modify]
    rw [if_neg (fun e => hk e.symm)]
theorem bytesV_flat (t : ByteArray) : (bytesV t).flatMap vcells = bytesV t := by
  simp only [bytesV]
  generalize t.data.toList = l
  induction l with
  | nil => rfl
  | cons x r ih => simp only [List.map_cons, List.flatMap_cons]; rw [ih]; rfl
theorem k36u (R : RO) (x : SV) (H : List SObj) : CallW Tryd.prog 36 [.ptr 0 0] R (.cells (.cons 1 (.ptr 0 0) (.cons 1 x .nil)) 63 :: H)
    (fun sv R' H' => sv = .tup .nil ∧ R' = R ∧ H' = .cells (.cons 1 (.ptr 0 0) (.cons 1 x .nil)) 63 :: H) := by
  intro cx w T vs hr hd hv
  obtain ⟨v0, rfl, hv0⟩ := one_inv hv
  obtain ⟨b, base, sz, h1, rfl⟩ := ptr_inv hv0
  obtain ⟨b', arr, h2, h3, h4⟩ := hd.obj 0 _ rfl
  rw [h1] at h2
  cases h2
  obtain ⟨u, v, rfl, d1, d2, s1, s2⟩ := two_inv h4
  obtain ⟨b2, ba2, sz2, e2, rfl⟩ := ptr_inv d1
  rw [h1] at e2
  cases e2
  have c0 : w.cell? ⟨b, 0, none⟩ = some (.pointer (some ⟨b, 0, none⟩)) := by rw [Lib.cell_of_heap h3]; rfl
  refine (callsIn_wide.2 (cc_used b w c0)).mono ?_
  rintro e w' ⟨rfl, rfl⟩
  exact ⟨_, .tup .nil, R, _, [], rfl, .tup .nil, by rw [List.append_nil]; exact hd, .refl _ _, .refl _ _ _, rfl, rfl, rfl⟩

theorem k36f (R : RO) : CallW Tryd.prog 36 [.ptr 0 0] R [.cells (.cons 1 (.raw (.pointer none)) (.cons 1 (.raw (.slice none 0 0)) .nil)) 63]
    (fun sv R' H' => sv = .tup .nil ∧ R' = R ∧ H' = [.cells (.cons 1 (.ptr 0 0) (.cons 1 (.raw (.slice none 0 0)) .nil)) 63]) := by
  intro cx w T vs hr hd hv
  obtain ⟨v0, rfl, hv0⟩ := one_inv hv
  obtain ⟨b, base, sz, h1, rfl⟩ := ptr_inv hv0
  obtain ⟨b', arr, h2, h3, h4⟩ := hd.obj 0 _ rfl
  rw [h1] at h2
  cases h2
  obtain ⟨u, v, rfl, d1, d2, s1, s2⟩ := two_inv h4
  have e1 := raw_inv d1
  have e2 := raw_inv d2
  subst e1; subst e2
  have c0 : w.cell? ⟨b, 0, none⟩ = some (.pointer none) := by rw [Lib.cell_of_heap h3]; rfl
  have hsh : w.shape? b = some (63, 2) := by simp [World.shape?, h3]
  have hfz := frozen_of_row w b 0 _ _ h3
  refine (callsIn_wide.2 (cc_fresh b w c0 hsh hfz)).mono ?_
  rintro e w' ⟨rfl, rfl⟩
  have hs : (w.setCell ⟨b, 0, none⟩ (.pointer (some ⟨b, 0, none⟩))).heap.size = w.heap.size := by simp [World.setCell]
  have hb : ∀ k, k ≠ b → (w.setCell ⟨b, 0, none⟩ (.pointer (some ⟨b, 0, none⟩))).heap[k]? = w.heap[k]? := fun k hk => heap_setCell_other w _ k _ hk
  refine ⟨_, .tup .nil, R, [.cells (.cons 1 (.ptr 0 0) (.cons 1 (.raw (.slice none 0 0)) .nil)) 63], [], rfl, .tup .nil, ?_, .upd ⟨0, _, _, h1⟩ rfl rfl rfl hs hb, .refl _ _ _, rfl, rfl, rfl⟩
  rw [List.append_nil]
  refine hd.upd (n := 0) h1 ⟨_, rfl, rfl⟩ hs hb ?_
  exact ⟨b, #[.pointer (some ⟨b, 0, none⟩), .slice none 0 0], h1, heap_setCell_same w b 0 _ _ _ h3, .one (.ptr h1) rfl (.one (.raw _) rfl .nil)⟩

theorem k24f (R : RO) : CallW Tryd.prog 24 [.ptr 0 0] R [.cells (.cons 1 (.raw (.pointer none)) (.cons 1 (.raw (.slice none 0 0)) .nil)) 63]
    (fun sv R' H' => sv = .raw (.string ⟨#[]⟩) ∧ R' = R ∧ H' = [.dead]) := by
  intro cx w T vs hr hd hv
  obtain ⟨v0, rfl, hv0⟩ := one_inv hv
  obtain ⟨b, base, sz, h1, rfl⟩ := ptr_inv hv0
  obtain ⟨b', arr, h2, h3, h4⟩ := hd.obj 0 _ rfl
  rw [h1] at h2
  cases h2
  obtain ⟨u, v, rfl, d1, d2, s1, s2⟩ := two_inv h4
  have e1 := raw_inv d1
  have e2 := raw_inv d2
  subst e1; subst e2
  refine (callsIn_wide.2 (str_fresh' Tryd.lays169 Tryd.Builder_Extra_169 b _ w h3)).mono ?_
  rintro e w' ⟨rfl, rfl⟩
  refine ⟨_, .raw _, R, [.dead], [], rfl, .raw _, ?_, ⟨rfl, rfl, rfl, Nat.le_refl _, fun _ _ _ => rfl, fun k h => .inl (by simpa using h)⟩, .refl _ _ _, rfl, rfl, rfl⟩
  rw [List.append_nil]
  exact (hd.kill 0).same (Nat.le_refl _) fun _ _ => rfl

theorem k24u (R : RO) (t : ByteArray) (es : List Value) (n cap : Nat) (hes : es = bytesV t) (hn : n = t.size) (h0 : n ≠ 0) (hc : n ≤ cap) (hsz : n ≤ 9223372036854775807) :
    CallW Tryd.prog 24 [.ptr 0 0] R [.cells (.cons 1 (.ptr 0 0) (.cons 1 (.sl 1 0 0 1 n cap) .nil)) 63, .buf es 1 5]
    (fun sv R' H' => sv = .raw (.string t) ∧ R' = R ∧ H' = [.dead, .dead]) := by
  intro cx w T vs hr hd hv
  obtain ⟨v0, rfl, hv0⟩ := one_inv hv
  obtain ⟨b, base, sz, h1, rfl⟩ := ptr_inv hv0
  obtain ⟨b', arr, h2, h3, h4⟩ := hd.obj 0 _ rfl
  rw [h1] at h2
  cases h2
  obtain ⟨u, v, rfl, d1, d2, s1, s2⟩ := two_inv h4
  obtain ⟨b2, ba2, sz2, e2, rfl⟩ := ptr_inv d1
  rw [h1] at e2
  cases e2
  have hlen : t.data.toList.length = n := by rw [hn]; rfl
  rcases sl_inv d2 with ⟨g, bs, sz, g1, g2, g3, rfl⟩ | ⟨g1, g2, _⟩ | ⟨_, _, _, _, _, g2, _⟩
  · rcases hd.obj 1 _ rfl with ⟨k1, _⟩ | ⟨b2, bs2, arr2, post, pre, k1, k2, k3, k4, k5⟩
    · rw [g1] at k1; cases k1
    · rw [g1] at k1
      cases k1
      have hesl : es.flatMap vcells = es := by rw [hes]; exact bytesV_flat t
      rw [hesl] at k3
      have hsh : w.shape? g = some (5, arr2.size) := by simp [World.shape?, k2]
      have hfz := frozen_of_row w g 0 _ _ k2
      have hcell : ∀ (j : Nat) x, t.data.toList[j]? = some x → w.cell? ((⟨g, bs, none⟩ : Addr).add j) = some (.int .u8 x.toNat) := by
        intro j x hx
        have hlt := (List.getElem?_eq_some_iff.1 hx).1
        have e : arr2[bs + j]? = some (.int .u8 x.toNat) := by
          rw [← Array.getElem?_toList, k3, List.getElem?_append_right (by omega), show bs + j - pre.length = j by omega, List.getElem?_append_left (by rw [hes]; simpa [bytesV] using hlt), hes]
          simp [bytesV, hx]
        rw [Addr.add_lit, Lib.cell_of_heap k2]
        exact e
      have e0 : bs + 0 + 0 * 1 = bs := by omega
      rw [e0] at h3 g3
      rw [← hlen] at h3
      refine (callsIn_wide.2 (str_used' Tryd.lays169 Tryd.Builder_Extra_169 b g bs cap _ t.data.toList arr2.size w h3 (fun e => by rw [e] at hlen; exact h0 hlen.symm) (by omega) (by omega) hsh (by omega) hcell)).mono ?_
      rintro e w' ⟨rfl, rfl⟩
      obtain ⟨f1, f2, f3, f4, f5⟩ := frz_w w ⟨g, bs, none⟩ t.data.toList.length
      refine ⟨_, .raw _, R, [.dead, .dead], [], rfl, .raw _, ?_, .upd ⟨1, _, _, g1⟩ f1 f2 f3 f4 f5, .refl _ _ _, rfl, rfl, rfl⟩
      rw [List.append_nil]
      exact (hd.upd (n := 1) (x := .dead) g1 ⟨_, rfl, rfl⟩ f4 f5 trivial).kill 0
  · exact absurd g2 h0
  · exact absurd g2 h0
end Go.Proofs

namespace Go.Proofs
open Go Go.SX
theorem kit : Kit Tryd.prog where
  e28 := ent_of Tryd.func28 (by kernel_rfl) (by kernel_rfl)
  h28 := k28
  e54 := ent_of Tryd.func54 (by kernel_rfl) (by kernel_rfl)
  h54 := k54
  e30 := ent_of Tryd.func30 (by kernel_rfl) (by kernel_rfl)
  h30 := k30
  e16 := ent_of Tryd.func16 (by kernel_rfl) (by kernel_rfl)
  h16 := k16
  e47 := ent_of Tryd.func47 (by kernel_rfl) (by kernel_rfl)
  h47 := fun n R => k47 n R
  e49 := ent_of Tryd.func49 (by kernel_rfl) (by kernel_rfl)
  h49 := k49
  e36 := ent_of Tryd.func36 (by kernel_rfl) (by kernel_rfl)
  h36u := k36u
  h36f := k36f
  e24 := ent_of Tryd.func24 (by kernel_rfl) (by kernel_rfl)
  h24u := k24u
  h24f := k24f
end Go.Proofs

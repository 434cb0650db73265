/-
  The listed errors read: pointers, each to a row of its own, none met twice.
-/
import Derived.Test.YtalhhkjdlnamdaaDoorLift
import Derived.Test.YtalhhkjdlnamdaaDoorWi
namespace Go.Proofs
open Go Go.SX Go.ChangeShapes Go.RowKit
set_option maxRecDepth 100000
def errD (t : List UInt8) : DataW Unit := .iface "*errors.errorString" (.ptr (.agg [.lit (.string t)]))
theorem Tryd.star : "*" ++ "errors.errorString" = "*errors.errorString" := by decide
theorem Tryd.row145 (u : TypeId) (h : Tryd.prog.typeName? 3 u = some "*errors.errorString") : u = 145 :=
  typeName_ptr_named (nm := "errors.errorString") (by rw [Tryd.star]; kernel_rfl) (by kernel_rfl) (by decide) u (by rw [Tryd.star]; exact h)
theorem Tryd.cells167 : Tryd.prog.cellsOf 167 = 1 := by kernel_rfl
theorem Tryd.cells9 : Tryd.prog.cellsOf 9 = 1 := by kernel_rfl
/-- the errors of a list: pointers, each to a row of its own, none met twice -/
theorem laid_errs {W : World} {rest : List (String × DataW Unit)} : ∀ {L : List (String × Nat × List UInt8)} {ps : List MemPlace},
    DataW.LaidVars Tryd.prog W ((L.map fun x => (x.1, errD x.2.2)) ++ rest) ps → ps.Nodup →
    (∀ b off, MemPlace.cell b off ∈ ps → (∃ c t, W.heap[b]? = some (.cells c t (0, 0))) ∧ ∀ u v, W.cell? ⟨b, off, none⟩ = some (.iface u v) → Value.okWide Tryd.prog W .any 0 u v) →
    (∀ x ∈ L, Tryd.prog.globalNamed x.1 = some x.2.1 ∧ (Tryd.prog.globals[x.2.1]?).map (·.type) = some 25) →
    ∃ al : List Addr, al.Nodup ∧ (∀ a ∈ al, MemPlace.cell a.block a.off ∈ ps ∧ ∃ c t, W.heap[a.block]? = some (.cells c t (0, 0))) ∧
      ∀ (i : Nat) (x : String × Nat × List UInt8), L[i]? = some x → ∃ a arr e f, al[i]? = some a ∧ W.heap[x.2.1]? = some (.cells arr e f) ∧ arr[0]? = some (.iface 145 (.pointer (some a)))
  | [], _, _, _, _, _ => ⟨[], .nil, by simp, by simp⟩
  | (nm, g, t) :: r, ps, h, hnd, hrows, hg => by
    obtain ⟨g0, t0, cs0, f0, p0, q0, hg0, ht0, hv0, hd0, hq, e0⟩ := h
    obtain ⟨hga, hgb⟩ := hg _ (List.mem_cons_self ..)
    simp only at hga hgb
    obtain rfl := Option.some.inj (hga.symm.trans hg0)
    obtain rfl := Option.some.inj (hgb.symm.trans ht0)
    subst e0
    obtain ⟨l0⟩ := cs0
    have ok0 : ∀ u v, l0 = [.iface u v] → Value.okWide Tryd.prog W .any 0 u v := fun u v e => by
      subst e
      exact (hrows g 0 (by simp [MemPlace.row])).2 u v (by simpa using World.var?_cell hg0 hv0 0)
    obtain ⟨a0, s0, rfl, hc0, hs0, hz0, rfl⟩ := errorString_of_trod Tryd.underlying25 Tryd.row145 Tryd.underlying145 Tryd.underlying167 rfl rfl Tryd.underlying9 Tryd.cells167 Tryd.cells9 hd0 ok0
    have hqn : q0.Nodup := List.Nodup.sublist (List.sublist_append_right _ _) hnd
    obtain ⟨al, h1, h2, h3⟩ := laid_errs (L := r) hq hqn (fun b off hm => hrows b off (List.mem_append_right _ hm)) (fun x hx => hg x (List.mem_cons_of_mem _ hx))
    obtain ⟨arr, e⟩ := var_obj hga hv0
    obtain ⟨f, hf⟩ := e
    refine ⟨a0 :: al, List.nodup_cons.2 ⟨fun hm => ?_, h1⟩, fun a ha => ?_, fun i x hx => ?_⟩
    · have := (h2 a0 hm).1
      rw [List.nodup_append] at hnd
      exact hnd.2.2 _ (by simp [MemPlace.row]) _ this rfl
    · rcases List.mem_cons.1 ha with rfl | ha
      · have hm : MemPlace.cell a.block a.off ∈ MemPlace.row ⟨g, 0, none⟩ 1 ++ MemPlace.row a 1 ++ q0 := by simp [MemPlace.row]
        exact ⟨hm, (hrows _ _ hm).1⟩
      · obtain ⟨k1, k2⟩ := h2 a ha
        exact ⟨List.mem_append_right _ k1, k2⟩
    · cases i with
      | zero =>
        simp at hx
        subst hx
        exact ⟨a0, _, _, _, rfl, hf, rfl⟩
      | succ i =>
        obtain ⟨a, arr', e', f', k1, k2⟩ := h3 i x (by simpa using hx)
        exact ⟨a, arr', e', f', by simpa using k1, k2⟩
end Go.Proofs

namespace Go.Proofs
open Go Go.SX Go.ChangeMaps Go.ChangeShapes Go.WideShapes Go.ChangeAt Go.RowKit
set_option maxRecDepth 100000
def errL : List (String × Nat × List UInt8) := [("quorate/api.ErrRange", 2, [113, 117, 111, 114, 97, 116, 101, 58, 32, 114, 97, 110, 103, 101]), ("quorate/api.ErrShort", 3, [113, 117, 111, 114, 97, 116, 101, 58, 32, 115, 104, 111, 114, 116]), ("quorate/api.ErrLong", 0, [113, 117, 111, 114, 97, 116, 101, 58, 32, 108, 111, 110, 103]), ("quorate/api.ErrForm", 1, [113, 117, 111, 114, 97, 116, 101, 58, 32, 102, 111, 114, 109]), ("quorate/api.ErrSpent", 4, [113, 117, 111, 114, 97, 116, 101, 58, 32, 115, 112, 101, 110, 116]), ("quorate/api.ErrPower", 5, [113, 117, 111, 114, 97, 116, 101, 58, 32, 112, 111, 119, 101, 114]), ("quorate/api.ErrDisk", 6, [113, 117, 111, 114, 97, 116, 101, 58, 32, 100, 105, 115, 107]), ("quorate/api.ErrFull", 7, [113, 117, 111, 114, 97, 116, 101, 58, 32, 102, 117, 108, 108]), ("quorate/api.ErrNone", 8, [113, 117, 111, 114, 97, 116, 101, 58, 32, 110, 111, 110, 101]), ("quorate/api.ErrOld", 9, [113, 117, 111, 114, 97, 116, 101, 58, 32, 111, 108, 100]), ("quorate/api.ErrSet", 10, [113, 117, 111, 114, 97, 116, 101, 58, 32, 115, 101, 116]), ("quorate/api.ErrProof", 11, [113, 117, 111, 114, 97, 116, 101, 58, 32, 112, 114, 111, 111, 102]), ("quorate/api.ErrLeader", 12, [113, 117, 111, 114, 97, 116, 101, 58, 32, 108, 101, 97, 100, 101, 114]), ("quorate/api.ErrRound", 13, [113, 117, 111, 114, 97, 116, 101, 58, 32, 114, 111, 117, 110, 100]), ("quorate/api.ErrUnsafe", 14, [113, 117, 111, 114, 97, 116, 101, 58, 32, 117, 110, 115, 97, 102, 101]), ("quorate/api.ErrParent", 15, [113, 117, 111, 114, 97, 116, 101, 58, 32, 112, 97, 114, 101, 110, 116]), ("quorate/api.ErrTwice", 16, [113, 117, 111, 114, 97, 116, 101, 58, 32, 116, 119, 105, 99, 101]), ("quorate/api.ErrEpoch", 17, [113, 117, 111, 114, 97, 116, 101, 58, 32, 101, 112, 111, 99, 104])]
def errI (g : Nat) : Nat := if g = 0 then 2 else if g = 1 then 3 else if g = 2 then 0 else if g = 3 then 1 else g
theorem errI_at : ∀ g, g < 18 → (errL[errI g]?).map (·.2.1) = some g := by decide
theorem errI_inj {g h : Nat} (e : errI g = errI h) : g = h := by
  unfold errI at e
  (repeat' split at e) <;> omega
theorem errL_glob : ∀ x ∈ errL, Tryd.prog.globalNamed x.1 = some x.2.1 ∧ (Tryd.prog.globals[x.2.1]?).map (·.type) = some 25 := by
  intro x hx
  simp only [errL, List.mem_cons, List.not_mem_nil, or_false] at hx
  rcases hx with rfl | rfl | rfl | rfl | rfl | rfl | rfl | rfl | rfl | rfl | rfl | rfl | rfl | rfl | rfl | rfl | rfl | rfl <;> exact ⟨by kernel_rfl, by kernel_rfl⟩
theorem GlA.of {W : World} {rest : List (String × DataW Unit)} (h : laidMet Tryd.prog ((errL.map fun x => (x.1, errD x.2.2)) ++ rest) W) : ∃ ad, GlA (RO.of W) ad := by
  obtain ⟨ps, hv, hnd, hrows⟩ := h
  obtain ⟨al, h1, h2, h3⟩ := laid_errs hv hnd hrows errL_glob
  have at_ : ∀ g, g < 18 → ∃ a arr e f, al[errI g]? = some a ∧ W.heap[g]? = some (.cells arr e f) ∧ arr[0]? = some (.iface 145 (.pointer (some a))) := fun g hg => by
    have := errI_at g hg
    obtain ⟨x, hx, hx2⟩ := Option.map_eq_some_iff.1 this
    obtain ⟨a, arr, e, f, k1, k2, k3⟩ := h3 _ x hx
    rw [hx2] at k2
    exact ⟨a, arr, e, f, k1, k2, k3⟩
  refine ⟨fun g => (al[errI g]?).getD ⟨0, 0, none⟩, ⟨fun g hg => ?_, fun g hg => ?_, fun g h hg hh hne e => ?_⟩⟩
  · obtain ⟨a, arr, e, f, k1, k2, k3⟩ := at_ g hg
    exact ⟨arr, e, f, k2, by rw [k1]; exact k3⟩
  · obtain ⟨a, arr, e, f, k1, k2, k3⟩ := at_ g hg
    obtain ⟨c, t, k4⟩ := (h2 a (List.mem_of_getElem? k1)).2
    exact ⟨c, t, by rw [k1]; exact k4⟩
  · obtain ⟨a, _, _, _, k1, _⟩ := at_ g hg
    obtain ⟨b, _, _, _, k2, _⟩ := at_ h hh
    simp only [k1, k2, Option.getD_some] at e
    subst e
    have hlt := (List.getElem?_eq_some_iff.1 k1).1
    exact hne (errI_inj ((List.getElem?_inj hlt h1).1 (k1.trans k2.symm)))
theorem GlA.iface {W : World} {ad : Nat → Addr} (h : GlA (RO.of W) ad) (g : Nat) (hg : g < 18) : ∃ arr e f u v, W.heap[g]? = some (.cells arr e f) ∧ arr[0]? = some (.iface u v) := by
  obtain ⟨arr, e, f, h1, h2⟩ := h.val g hg
  exact ⟨arr, e, f, _, _, h1, h2⟩
end Go.Proofs

/-
  How an argument of type []world.Op reads, and how a law's row is closed where its arguments hold places.
-/
import Derived.Test.YtalhhkjdlnamdaaDoorLifs
import Derived.Test.YtalhhkjdlnamdaaDoorWk
import Derived.Deep.Slices
import Derived.Carry
import Derived.WideKeyArgs
namespace Go.Proofs
open Go Go.SX Go.ChangeMaps Go.ChangeShapes Go.WideShapes Go.ChangeAt Go.RowKit
set_option maxRecDepth 100000
theorem drop_pre {α : Type} {L m : List α} (h : ∀ j, j < m.length → L[j]? = m[j]?) : L = m ++ L.drop m.length := by
  have : L.take m.length = m := by
    apply List.ext_getElem?
    intro j
    rw [List.getElem?_take]
    split
    · next hj => exact h j hj
    · next hj => rw [List.getElem?_eq_none (by omega)]
  conv => lhs; rw [← List.take_append_drop m.length L, this]
theorem flat_at {arr : List Value} {wd : Nat} : ∀ (es : List Value) (o : Nat), (∀ v ∈ es, (vcells v).length = wd) → (∀ (i : Nat) v, es[i]? = some v → ∀ j, j < wd → arr[o + i * wd + j]? = (vcells v)[j]?) → ∃ post, arr.drop o = es.flatMap vcells ++ post
  | [], o, _, _ => ⟨arr.drop o, rfl⟩
  | v :: r, o, hl, hc => by
    have hv := hl v (List.mem_cons_self ..)
    obtain ⟨post, hp⟩ := flat_at r (o + wd) (fun u hu => hl u (List.mem_cons_of_mem _ hu)) (fun i u hu j hj => by
      have := hc (i + 1) u (by simpa using hu) j hj
      rw [← this]; congr 1; rw [Nat.add_mul]; omega)
    refine ⟨post, ?_⟩
    have h0 : ∀ j, j < (vcells v).length → (arr.drop o)[j]? = (vcells v)[j]? := fun j hj => by
      rw [List.getElem?_drop]
      have := hc 0 v rfl j (by omega)
      rw [← this]; congr 1; omega
    rw [drop_pre h0, hv, List.drop_drop, hp, List.flatMap_cons, List.append_assoc]
theorem rosl_of {W : World} {b o cap wd : Nat} {es : List Value} {arr : Array Value} {e : TypeId} {fr : Nat × Nat} (hb : W.heap[b]? = some (.cells arr e fr)) (ho : o ≤ arr.size) (hl : es.length ≤ cap) (hE : ∀ v ∈ es, EOk wd v) (hlen : ∀ v ∈ es, (vcells v).length = wd)
    (hc : ∀ (i : Nat) v, es[i]? = some v → ∀ j, j < wd → arr[o + i * wd + j]? = (vcells v)[j]?) : ROSl (RO.of W) (.slice (some ⟨b, o, none⟩) es.length cap) es wd := by
  obtain ⟨post, hp⟩ := flat_at (arr := arr.toList) es o hlen (fun i v hv j hj => by rw [Array.getElem?_toList]; exact hc i v hv j hj)
  exact .inl ⟨b, o, cap, arr, e, fr, arr.toList.take o, post, rfl, hl, hb, by rw [← hp, List.take_append_drop], by simp; omega, hE⟩
theorem list_of {α : Type} {Q : Nat → α → Prop} : ∀ n, (∀ i, i < n → ∃ y, Q i y) → ∃ l : List α, l.length = n ∧ ∀ i y, l[i]? = some y → Q i y
  | 0, _ => ⟨[], rfl, by simp⟩
  | n + 1, h => by
    obtain ⟨l, h1, h2⟩ := list_of n fun i hi => h i (by omega)
    obtain ⟨y, hy⟩ := h n (by omega)
    refine ⟨l ++ [y], by simp [h1], fun i z hz => ?_⟩
    by_cases hi : i < l.length
    · rw [List.getElem?_append_left hi] at hz; exact h2 i z hz
    · rw [List.getElem?_append_right (by omega)] at hz
      have : i - l.length = 0 := by
        rcases Nat.eq_zero_or_pos (i - l.length) with h0 | h0
        · exact h0
        · rw [List.getElem?_eq_none (by simp; omega)] at hz; cases hz
      rw [this] at hz
      simp at hz
      subst hz
      rw [show i = n by omega]; exact hy
theorem cell_blk {W : World} {a : Addr} {v : Value} (h : W.cell? a = some v) : ∃ arr e fr, a = ⟨a.block, a.off, none⟩ ∧ W.heap[a.block]? = some (.cells arr e fr) ∧ arr[a.off]? = some v := by
  obtain ⟨b, o, sp⟩ := a
  unfold World.cell? at h
  simp only at h ⊢
  split at h
  · next c e fr hb =>
    cases sp with
    | none => exact ⟨c, e, fr, rfl, hb, by simpa using h⟩
    | some s => simp at h
  · cases h
section
variable {H : Type} {enc : TypeId × Value → H} {P : Program} {W : World}
theorem read1 {t e : TypeId} {α : Type} (conv : α → Value) (Q : α → Prop) (ht : P.underlying t = some (.slice e)) (hc : P.cellsOf e = 1)
    (hel : ∀ n c x, DataW.trod enc P W 0 (fun _ => true) true n e [c] = some x → ∃ y, c = conv y ∧ Q y) (hcv : ∀ y, scal (conv y) = true ∧ vcells (conv y) = [conv y])
    {fuel : Nat} {cs : List Value} {x : DataW H × List MemPlace} (h : DataW.trod enc P W 0 (fun _ => true) true fuel t cs = some x) :
    ∃ q n c, ∃ l : List α, cs = [.slice q n c] ∧ ROSl (RO.of W) (.slice q n c) (l.map conv) 1 ∧ ∀ y ∈ l, Q y := by
  rcases Go.Deep.open_slice1 ht hc h with ⟨rfl, _⟩ | ⟨a, len, cap, m, n, V, D, Pl, rfl, _, hl, _, hm, _, hx⟩
  · exact ⟨none, 0, 0, [], rfl, .nil 1 none, by simp⟩
  · simp only [if_true] at hm
    subst hm
    by_cases h0 : m = 0
    · subst h0
      have : len = 0 := by omega
      subst this
      exact ⟨_, 0, 0, [], rfl, .nil 1 _, by simp⟩
    · obtain ⟨arr, ee, fr, ha, hb, hv0⟩ := cell_blk (hx 0 (by omega)).1
      have ea : a.add 0 = a := by simp [Addr.add]
      rw [ea] at ha hb hv0
      obtain ⟨b, o, sp⟩ := a
      simp only [Addr.mk.injEq, true_and] at ha
      subst ha
      simp only at hb hv0
      obtain ⟨l, hll, hlq⟩ := list_of (Q := fun i y => W.cell? ⟨b, o + i, none⟩ = some (conv y) ∧ Q y) len fun i hi => by
        obtain ⟨h1, h2⟩ := hx i (by omega)
        obtain ⟨y, hy, hq⟩ := hel _ _ _ h2
        rw [hy, Addr.add_lit] at h1
        exact ⟨y, h1, hq⟩
      have hsz : o < arr.size := (Array.getElem?_eq_some_iff.1 hv0).1
      refine ⟨some ⟨b, o, none⟩, len, m, l, rfl, ?_, fun y hy => ?_⟩
      · have := rosl_of (W := W) (o := o) (cap := m) (wd := 1) (es := l.map conv) hb (by omega) (by simp [hll]; omega) (fun v hv => by
          obtain ⟨y, _, rfl⟩ := List.mem_map.1 hv
          exact ⟨fun _ => (hcv y).1, fun h => absurd rfl h⟩) (fun v hv => by
          obtain ⟨y, _, rfl⟩ := List.mem_map.1 hv
          rw [(hcv y).2]; rfl) (fun i v hv j hj => by
          rw [List.getElem?_map, Option.map_eq_some_iff] at hv
          obtain ⟨y, hy, rfl⟩ := hv
          have := (hlq i y hy).1
          obtain ⟨arr', e', fr', _, hb', hv'⟩ := cell_blk this
          simp only at hb' hv'
          rw [hb] at hb'
          cases hb'
          have : j = 0 := by omega
          subst this
          rw [(hcv y).2, show o + i * 1 + 0 = o + i by omega, hv']; rfl)
        rwa [List.length_map, hll] at this
      · obtain ⟨i, hi⟩ := List.getElem?_of_mem hy
        exact (hlq i y hi).2
end
end Go.Proofs

namespace Go.Proofs
open Go Go.SX Go.ChangeMaps Go.ChangeShapes Go.WideShapes Go.ChangeAt Go.RowKit
set_option maxRecDepth 100000
theorem Tryd.cells3 : Tryd.prog.cellsOf 3 = 1 := by kernel_rfl
theorem Tryd.cells4 : Tryd.prog.cellsOf 4 = 1 := by kernel_rfl
theorem Tryd.cells5 : Tryd.prog.cellsOf 5 = 1 := by kernel_rfl
theorem Tryd.cells28 : Tryd.prog.cellsOf 28 = 1 := by kernel_rfl
theorem Tryd.cells29 : Tryd.prog.cellsOf 29 = 1 := by kernel_rfl
theorem Tryd.cells30 : Tryd.prog.cellsOf 30 = 1 := by kernel_rfl
theorem Tryd.cells32 : Tryd.prog.cellsOf 32 = 6 := by kernel_rfl
theorem wf_i64 {n : Int} (h : (Lit.int .i64 n).wf = true) : I64 n := by
  simp only [Lit.wf, Bool.and_eq_true, decide_eq_true_eq] at h
  have wb1 : IntKind.i64.min = -9223372036854775808 := rfl
  have wb2 : IntKind.i64.max = 9223372036854775807 := rfl
  exact ⟨by omega, by omega⟩
section
variable {H : Type} {enc : TypeId × Value → H} {W : World}
theorem readI {fuel : Nat} {cs : List Value} {x : DataW H × List MemPlace} (h : DataW.trod enc Tryd.prog W 0 (fun _ => true) true fuel 28 cs = some x) :
    ∃ q n c, ∃ l : List Int, cs = [.slice q n c] ∧ ROSl (RO.of W) (.slice q n c) (intV l) 1 ∧ ∀ y ∈ l, I64 y :=
  read1 (fun n => .int .i64 n) I64 Tryd.underlying28 Tryd.cells3 (fun n c x hx => by
    obtain ⟨z, h1, _, h3⟩ := DataW.trod_int Tryd.underlying3 hx
    cases h1
    exact ⟨z, rfl, wf_i64 h3⟩) (fun y => ⟨rfl, rfl⟩) h
theorem readB {fuel : Nat} {cs : List Value} {x : DataW H × List MemPlace} (h : DataW.trod enc Tryd.prog W 0 (fun _ => true) true fuel 29 cs = some x) :
    ∃ q n c, ∃ l : List Bool, cs = [.slice q n c] ∧ ROSl (RO.of W) (.slice q n c) (boolV l) 1 := by
  obtain ⟨q, n, c, l, h1, h2, _⟩ := read1 (fun b => .bool b) (fun _ => True) Tryd.underlying29 Tryd.cells4 (fun n c x hx => by
    obtain ⟨b, h1, _⟩ := DataW.trod_bool Tryd.underlying4 hx
    cases h1
    exact ⟨b, rfl, trivial⟩) (fun y => ⟨rfl, rfl⟩) h
  exact ⟨q, n, c, l, h1, h2⟩
theorem readY {fuel : Nat} {cs : List Value} {x : DataW H × List MemPlace} (h : DataW.trod enc Tryd.prog W 0 (fun _ => true) true fuel 30 cs = some x) :
    ∃ q n c, ∃ l : List UInt8, cs = [.slice q n c] ∧ ROSl (RO.of W) (.slice q n c) (byV l) 1 := by
  obtain ⟨q, n, c, l, h1, h2, _⟩ := read1 (fun b : UInt8 => .int .u8 (b.toNat : Int)) (fun _ => True) Tryd.underlying30 Tryd.cells5 (fun n c x hx => by
    obtain ⟨z, h1, _, h3⟩ := DataW.trod_int Tryd.underlying5 hx
    cases h1
    simp only [Lit.wf, Bool.and_eq_true, decide_eq_true_eq] at h3
    have wb1 : IntKind.u8.min = 0 := rfl
    have wb2 : IntKind.u8.max = 255 := rfl
    refine ⟨z.toNat.toUInt8, ?_, trivial⟩
    have : z.toNat.toUInt8.toNat = z.toNat := by simp; omega
    rw [this]
    congr 1
    omega) (fun y => ⟨rfl, rfl⟩) h
  exact ⟨q, n, c, l, h1, h2⟩
/-- what is read of an op -/
structure OpRd (W : World) (o : Sc.Op) (v : Value) : Prop where
  v : OpV (RO.of W) o v
  i : I64 o.kind ∧ I64 o.node ∧ I64 o.n ∧ ∀ x ∈ o.set, I64 x
theorem readO {fuel : Nat} {cs : List Value} {x : DataW H × List MemPlace} (h : DataW.trod enc Tryd.prog W 0 (fun _ => true) true fuel 32 cs = some x) :
    ∃ o k i n q1 m1 c1 q2 m2 c2 q3 m3 c3, cs = [.int .i64 k, .int .i64 i, .int .i64 n, .slice q1 m1 c1, .slice q2 m2 c2, .slice q3 m3 c3] ∧ OpRd W o (opA k i n (.slice q1 m1 c1) (.slice q2 m2 c2) (.slice q3 m3 c3)) := by
  obtain ⟨xs, n, _, _, hl, hxl, hf⟩ := DataW.trod_struct Tryd.underlying32 h
  rw [Tryd.cells32] at hl
  match cs, hl with
  | [a0, a1, a2, a3, a4, a5], _ =>
    have g0 : DataW.trod enc Tryd.prog W 0 (fun _ => true) true n 3 (([a0, a1, a2, a3, a4, a5].drop 0).take (Tryd.prog.cellsOf 3)) = xs[0]? := hf 0 _ rfl
    rw [Tryd.cells3] at g0
    have g1 : DataW.trod enc Tryd.prog W 0 (fun _ => true) true n 3 (([a0, a1, a2, a3, a4, a5].drop 1).take (Tryd.prog.cellsOf 3)) = xs[1]? := hf 1 _ rfl
    rw [Tryd.cells3] at g1
    have g2 : DataW.trod enc Tryd.prog W 0 (fun _ => true) true n 3 (([a0, a1, a2, a3, a4, a5].drop 2).take (Tryd.prog.cellsOf 3)) = xs[2]? := hf 2 _ rfl
    rw [Tryd.cells3] at g2
    have g3 : DataW.trod enc Tryd.prog W 0 (fun _ => true) true n 28 (([a0, a1, a2, a3, a4, a5].drop 3).take (Tryd.prog.cellsOf 28)) = xs[3]? := hf 3 _ rfl
    rw [Tryd.cells28] at g3
    have g4 : DataW.trod enc Tryd.prog W 0 (fun _ => true) true n 29 (([a0, a1, a2, a3, a4, a5].drop 4).take (Tryd.prog.cellsOf 29)) = xs[4]? := hf 4 _ rfl
    rw [Tryd.cells29] at g4
    have g5 : DataW.trod enc Tryd.prog W 0 (fun _ => true) true n 30 (([a0, a1, a2, a3, a4, a5].drop 5).take (Tryd.prog.cellsOf 30)) = xs[5]? := hf 5 _ rfl
    rw [Tryd.cells30] at g5
    have hxl' : xs.length = 6 := hxl
    simp only [List.drop_succ_cons, List.drop_zero, List.take_succ_cons, List.take_zero] at g0 g1 g2 g3 g4 g5
    rw [List.getElem?_eq_getElem (by omega)] at g0 g1 g2 g3 g4 g5
    obtain ⟨k, e0, _, w0⟩ := DataW.trod_int Tryd.underlying3 g0
    obtain ⟨i, e1, _, w1⟩ := DataW.trod_int Tryd.underlying3 g1
    obtain ⟨nn, e2, _, w2⟩ := DataW.trod_int Tryd.underlying3 g2
    obtain ⟨q1, m1, c1, l1, e3, r1, i1⟩ := readI g3
    obtain ⟨q2, m2, c2, l2, e4, r2⟩ := readB g4
    obtain ⟨q3, m3, c3, l3, e5, r3⟩ := readY g5
    cases e0; cases e1; cases e2; cases e3; cases e4; cases e5
    exact ⟨⟨k, i, nn, l1, l2, l3⟩, k, i, nn, q1, m1, c1, q2, m2, c2, q3, m3, c3, rfl, ⟨k, i, nn, _, _, _, rfl, rfl, rfl, rfl, r1, r2, r3⟩, wf_i64 w0, wf_i64 w1, wf_i64 w2, i1⟩
theorem readOps {fuel : Nat} {cs : List Value} {x : DataW H × List MemPlace} (h : DataW.trod enc Tryd.prog W 0 (fun _ => true) true fuel 23 cs = some x) :
    ∃ v, ∃ l : List Sc.Op, ∃ es, cs = [v] ∧ ROSl (RO.of W) v es 6 ∧ OpsV (RO.of W) l es ∧ ∀ o ∈ l, I64 o.kind ∧ I64 o.node ∧ I64 o.n ∧ ∀ x ∈ o.set, I64 x := by
  rcases Go.Deep.open_slice Tryd.underlying23 h with ⟨rfl, _⟩ | ⟨a, len, cap, m, n, D, Pl, rfl, _, hl, _, hm, _, hx⟩
  · exact ⟨_, [], [], rfl, .nil 6 none, .nil, by simp⟩
  · simp only [if_true] at hm
    subst hm
    by_cases h0 : m = 0
    · subst h0
      have : len = 0 := by omega
      subst this
      exact ⟨_, [], [], rfl, .nil 6 _, .nil, by simp⟩
    · rw [Tryd.cells32] at hx
      have hx0 : ∃ v, W.cell? a = some v := by
        obtain ⟨cs', h1, h2⟩ := hx 0 (by omega)
        obtain ⟨_, h3, h4⟩ := World.cells?_some h1
        have := h4 0 (by omega)
        simp only [Nat.zero_mul] at this
        have ea : (a.add 0).add 0 = a := by simp [Addr.add]
        rw [ea, List.getElem?_eq_getElem (by omega)] at this
        exact ⟨_, this⟩
      obtain ⟨v0, hv0⟩ := hx0
      obtain ⟨arr, ee, fr, ha, hb, hv0⟩ := cell_blk hv0
      obtain ⟨b, o, sp⟩ := a
      simp only [Addr.mk.injEq, true_and] at ha
      subst ha
      simp only at hb hv0
      obtain ⟨l, hll, hlq⟩ := list_of (Q := fun i (y : Sc.Op × Value) => OpRd W y.1 y.2 ∧ (vcells y.2).length = 6 ∧ EOk 6 y.2 ∧ ∀ j, j < 6 → W.cell? ⟨b, o + i * 6 + j, none⟩ = (vcells y.2)[j]?) len fun i hi => by
        obtain ⟨cs', h1, h2⟩ := hx i (by omega)
        obtain ⟨_, h3, h4⟩ := World.cells?_some h1
        obtain ⟨op, k, ii, nn, q1, m1, c1, q2, m2, c2, q3, m3, c3, rfl, hop⟩ := readO h2
        refine ⟨(op, _), hop, rfl, ⟨fun h => absurd h (by decide), fun _ => ⟨_, rfl, rfl, by simp [scal]⟩⟩, fun j hj => ?_⟩
        have := h4 j hj
        rw [Addr.add_lit, Addr.add_lit] at this
        exact this
      have hsz : o < arr.size := (Array.getElem?_eq_some_iff.1 hv0).1
      refine ⟨_, l.map (·.1), l.map (·.2), rfl, ?_, ?_, fun op hop => ?_⟩
      · have := rosl_of (W := W) (o := o) (cap := m) (wd := 6) (es := l.map (·.2)) hb (by omega) (by simp [hll]; omega) (fun v hv => by
          obtain ⟨y, hy, rfl⟩ := List.mem_map.1 hv
          obtain ⟨i, hi⟩ := List.getElem?_of_mem hy
          exact (hlq i y hi).2.2.1) (fun v hv => by
          obtain ⟨y, hy, rfl⟩ := List.mem_map.1 hv
          obtain ⟨i, hi⟩ := List.getElem?_of_mem hy
          exact (hlq i y hi).2.1) (fun i v hv j hj => by
          rw [List.getElem?_map, Option.map_eq_some_iff] at hv
          obtain ⟨y, hy, rfl⟩ := hv
          obtain ⟨_, k2, _, k4⟩ := hlq i y hy
          have h5 := k4 j hj
          rw [List.getElem?_eq_getElem (by omega)] at h5 ⊢
          obtain ⟨arr', e', fr', _, hb', hv'⟩ := cell_blk h5
          simp only at hb' hv'
          rw [hb] at hb'
          cases hb'
          exact hv')
        rwa [List.length_map, hll] at this
      · clear hll
        have : ∀ y ∈ l, OpV (RO.of W) y.1 y.2 := fun y hy => by
          obtain ⟨i, hi⟩ := List.getElem?_of_mem hy
          exact (hlq i y hi).1.v
        clear hlq
        induction l with
        | nil => exact .nil
        | cons y r ih => exact .cons (this y (List.mem_cons_self ..)) (ih fun z hz => this z (List.mem_cons_of_mem _ hz))
      · obtain ⟨y, hy, rfl⟩ := List.mem_map.1 hop
        obtain ⟨i, hi⟩ := List.getElem?_of_mem hy
        exact (hlq i y hi).1.i
theorem post_old {P : Program} {f : Func} {s : ChangeSpec} {apart fresh handsOn again : Bool} {W' : World} {args : Array Value} {v : Value} {ds gs : List (DataW H)} {before : List MemPlace}
    (hW : DataW.Whole enc P f.params.toList s.vars apart W args.toList ds gs before)
    (hres : ∀ (b : Nat) (sp : Nat → Bool) (hd : Bool), DataW.TrodAll enc P W' b sp hd f.resultTypes.toList (v.resultList f.resultTypes.size) (s.fn H (ds ++ gs)).results [])
    (hargs : ∀ sp : Nat → Bool, (∀ p ∈ before, sp p.block = true) → DataW.TrodAll enc P W' 0 sp true f.params.toList args.toList (s.fn H (ds ++ gs)).args before)
    (hvars : ∀ sp : Nat → Bool, DataW.TrodVars enc P W' sp s.vars (s.fn H (ds ++ gs)).vars [])
    (hb : Below W.heap.size W W')
    (hok : ∀ (j : Nat) (t : TypeId) (r : Value), f.resultTypes[j]? = some t → (v.resultList f.resultTypes.size)[j]? = some r → Value.okWide P W' .any 0 t r) :
    s.post enc P f apart fresh handsOn again W args v W' := by
  have hlt := hW.lt
  have hold : ∀ p ∈ before, (fun b => decide (b < W.heap.size)) p.block = true := fun p hp => by simpa using hlt p hp
  refine ⟨ds, gs, before, [], before, [], hW, hres _ _ _, hargs _ hold, hvars _, World.keptBut_mono (fun p hp => ⟨hp, .inr (by simpa using hp)⟩) (hb.frame (· ∈ before)), fun _ => ?_⟩
  obtain ⟨_, _, _, _, _, hz, hn⟩ := hW
  refine ⟨hok, _, _, ([] ++ before) ++ [], ⟨[] ++ before, [], trodAll_append (hargs _ (fun _ _ => rfl)) (hres _ _ _), hvars _, rfl, ?_, ?_⟩, ?_⟩
  · intro b off hp
    have hp' : MemPlace.cell b off ∈ before := by simpa using hp
    rw [hb.frozen (p := ⟨b, off, none⟩) (hlt _ hp')]
    exact hz b off hp'
  · intro ha
    simpa using hn ha
  · intro p hp _
    simpa using hp
end
end Go.Proofs

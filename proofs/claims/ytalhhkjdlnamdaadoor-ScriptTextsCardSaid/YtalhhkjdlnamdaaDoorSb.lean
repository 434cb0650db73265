/-
  How a symbolic value's operators follow the real ones.
-/
import Derived.Test.YtalhhkjdlnamdaaDoorSa
/- The symbolic machine: operations that touch no memory: what they say holds. -/
namespace Go.SX
open Go

variable {P : Program} {T : List Blk} {tm : Tm} {a : Act} {o : Oper} {K : SV → Prop}

section inv
variable {v : Value}
theorem ptr_inv {n off : Nat} (h : DV T (.ptr n off) v) : ∃ b base sz, T[n]? = some (.at b base sz) ∧ v = .pointer (some ⟨b, base + off, none⟩) := by
  cases h with | ptr h => exact ⟨_, _, _, h, rfl⟩
theorem ep_inv {n off i w fo : Nat} (h : DV T (.ep n off i w fo) v) : ∃ b base sz, T[n]? = some (.at b base sz) ∧ v = .pointer (some ⟨b, base + off + i * w + fo, none⟩) := by
  cases h with | ep h => exact ⟨_, _, _, h, rfl⟩
theorem sl_inv {n off i w len cap : Nat} (h : DV T (.sl n off i w len cap) v) :
    (∃ b base sz, T[n]? = some (.at b base sz) ∧ len ≤ cap ∧ base + off + i * w + cap * w ≤ sz ∧ v = .slice (some ⟨b, base + off + i * w, none⟩) len cap) ∨
    (T[n]? = some .absent ∧ len = 0 ∧ cap = 0 ∧ ∃ x, v = .slice x 0 0) ∨ (∃ b base sz o', T[n]? = some (.at b base sz) ∧ len = 0 ∧ cap = 0 ∧ v = .slice (some ⟨b, o', none⟩) 0 0) := by
  cases h with
  | sl h a b => exact .inl ⟨_, _, _, h, a, b, rfl⟩
  | slnil h => exact .inr (.inl ⟨h, rfl, rfl, _, rfl⟩)
  | sl0 h => exact .inr (.inr ⟨_, _, _, _, h, rfl, rfl, rfl⟩)
theorem rep_inv {u : Value} {i w fo : Nat} (h : DV T (.rep u i w fo) v) : ∃ k o len cap, u = .slice (some ⟨k, o, none⟩) len cap ∧ v = .pointer (some ⟨k, o + i * w + fo, none⟩) := by
  cases h with | rep h => exact ⟨_, _, _, _, h, rfl⟩
theorem agg_inv {cs : SC} (h : DV T (.agg cs) v) : ∃ arr, v = .agg arr ∧ DC T cs arr.toList := by
  cases h with | agg h => exact ⟨_, rfl, h⟩
theorem tup_inv {cs : SC} (h : DV T (.tup cs) v) : ∃ arr, v = .tuple arr ∧ DL T cs arr.toList := by
  cases h with | tup h => exact ⟨_, rfl, h⟩
theorem ifc_inv {t : Nat} {s : SV} (h : DV T (.ifc t s) v) : ∃ x, v = .iface t x ∧ DV T s x := by
  cases h with | ifc h => exact ⟨_, rfl, h⟩
theorem fn_inv {f : Fn} {p q : SC} (h : DV T (.fn f p q) v) : ∃ x y, v = .func f x y ∧ DL T p x.toList ∧ DL T q y.toList := by
  cases h with | fn h g => exact ⟨_, _, rfl, h, g⟩
end inv

theorem p_mov (x : Operand) (ho : o.op = .move x ∨ o.op = .assign x) (ht : DT T tm a.tmps) (h : vcPure (.mov x) tm K) : PureOk P T a o K := by
  refine ⟨a.eval x, ev tm x, fun w => ?_, ev_ok ht x, h⟩
  rcases ho with ho | ho <;> simp [execOp, ho]

theorem p_pck (c x y : Operand) (ho : o.op = .pick c x y) (ht : DT T tm a.tmps) (h : vcPure (.pck c x y) tm K) : PureOk P T a o K := by
  simp only [vcPure] at h
  have hc := ev_ok ht c
  split at h
  · rename_i t he
    rw [he] at hc
    have hc := raw_inv hc
    split at h
    · exact ⟨a.eval x, ev tm x, fun w => by simp [execOp, ho, hc, asBool], ev_ok ht x, h⟩
    · exact ⟨a.eval y, ev tm y, fun w => by simp [execOp, ho, hc, asBool], ev_ok ht y, h⟩
  · exact h.elim

theorem p_nck (x : Operand) (ho : o.op = .nilCheck x) (ht : DT T tm a.tmps) (h : vcPure (.nck x) tm K) : PureOk P T a o K := by
  simp only [vcPure] at h
  have hx := ev_ok ht x
  split at h
  · rename_i he; rw [he] at hx; obtain ⟨b, base, sz, h1, hv⟩ := ptr_inv hx; exact ⟨_, _, fun w => by simp [execOp, ho, hv], hv ▸ hx, h⟩
  · rename_i he; rw [he] at hx; obtain ⟨b, base, sz, h1, hv⟩ := ep_inv hx; exact ⟨_, _, fun w => by simp [execOp, ho, hv], hv ▸ hx, h⟩
  · rename_i he; rw [he] at hx; obtain ⟨b, base, sz, cap, h1, hv⟩ := rep_inv hx; exact ⟨_, _, fun w => by simp [execOp, ho, hv], hv ▸ hx, h⟩
  · rename_i he; rw [he] at hx; have hv := raw_inv hx; exact ⟨_, _, fun w => by simp [execOp, ho, hv], .raw _, h⟩
  · rename_i he; split at h
    · rw [he] at hx; obtain ⟨p, q, hv, h1⟩ := fn_inv hx; exact ⟨_, _, fun w => by simp [execOp, ho, hv], hv ▸ hx, h⟩
    · exact h.elim
  · exact h.elim

theorem run_eqGuard_no (op : BinOp) (t : TypeId) (x y : Operand) (p q : Value) (w : World)
    (h : (op ≠ .eql ∧ op ≠ .neq) ∨ (∀ z, p ≠ .agg z) ∧ (p ≠ .nilIface ∨ q ≠ .nilIface)) : (eqGuard op t x y p q).run P w = .ok () w := by
  unfold eqGuard
  rcases h with ⟨h1, h2⟩ | ⟨h1, h2⟩
  · cases op <;> first | rfl | exact absurd rfl h1 | exact absurd rfl h2
  · by_cases hc : (!(match op with | .eql | .neq => true | _ => false)) = true
    · cases op <;> first | rfl | (simp at hc)
    · have : (op = .eql ∨ op = .neq) := by cases op <;> simp at hc ⊢
      rcases this with rfl | rfl
      all_goals
        simp only [Bool.not_true, Bool.false_eq_true, if_false]
        split
        · rcases h2 with h2 | h2 <;> exact absurd rfl h2
        · exact absurd rfl (h1 _)
        · rfl

theorem p_bin_run (op : BinOp) (t yt : TypeId) (x y : Operand) (ho : o.op = .binOp op t x y yt) {v : Value} {w : World}
    (hg : (eqGuard op t x y (a.eval x) (a.eval y)).run P w = .ok () w) (hb : (binOp op t (a.eval x) (a.eval y)).run P w = .ok v w) :
    (execOp a.eval o).run P w = .ok (.value v) w := by
  simp [execOp, ho, Sem.run_bind, hg, hb]

theorem eqk_bool {t : TypeId} (h : eqk P t = .bool) : P.underlying t = some .bool := by
  unfold eqk at h
  split at h <;> first | assumption | cases h | (split at h <;> first | cases h | (split at h <;> cases h))
theorem eqk_err {t : TypeId} (h : eqk P t = .err) : ∃ ms, P.underlying t = some (.interface ms) := by
  unfold eqk at h
  split at h <;> first | exact ⟨_, by assumption⟩ | cases h | (split at h <;> first | cases h | (split at h <;> cases h))
theorem eqk_ptr {t : TypeId} (h : eqk P t = .ptr) : ∃ e, P.underlying t = some (.pointer e) := by
  unfold eqk at h
  split at h <;> first | exact ⟨_, by assumption⟩ | cases h | (split at h <;> first | cases h | (split at h <;> cases h))

theorem run_equal_bool {t : TypeId} (hu : P.underlying t = some .bool) (p q : Bool) (w : World) : (Op.equal t (.bool p) (.bool q)).run P w = .ok (p == q) w := by
  unfold Op.equal Op.maxDepth
  rw [show (10000 : Nat) = 9999 + 1 from rfl, Op.equalIn]
  simp [Sem.run_bind, run_underlying hu]
theorem run_equal_iface_nil {t : TypeId} {ms : Array (String × TypeId)} (hu : P.underlying t = some (.interface ms)) (u : TypeId) (p : Value) (w : World) :
    (Op.equal t (.iface u p) .nilIface).run P w = .ok false w := by
  unfold Op.equal Op.maxDepth
  rw [show (10000 : Nat) = 9999 + 1 from rfl, Op.equalIn]
  simp [Sem.run_bind, run_underlying hu]
theorem run_equal_nil_nil {t : TypeId} {ms : Array (String × TypeId)} (hu : P.underlying t = some (.interface ms)) (w : World) :
    (Op.equal t .nilIface .nilIface).run P w = .ok true w := by
  unfold Op.equal Op.maxDepth
  rw [show (10000 : Nat) = 9999 + 1 from rfl, Op.equalIn]
  simp [Sem.run_bind, run_underlying hu]
theorem run_equal_ptr_nil {t e : TypeId} (hu : P.underlying t = some (.pointer e)) (p : Addr) (w : World) :
    (Op.equal t (.pointer (some p)) (.pointer none)).run P w = .ok false w := by
  unfold Op.equal Op.maxDepth
  rw [show (10000 : Nat) = 9999 + 1 from rfl, Op.equalIn]
  simp [Sem.run_bind, run_underlying hu]

theorem p_vcBin (op : BinOp) (t yt : TypeId) (x y : Operand) (ho : o.op = .binOp op t x y yt) (sx sy : SV) (hx : DV T sx (a.eval x)) (hy : DV T sy (a.eval y))
    (h : vcBin op (eqk P t) sx sy K) : PureOk P T a o K := by
  unfold vcBin at h
  split at h
  · -- ints
    rename_i k p k' q
    have hx := raw_inv hx
    have hy := raw_inv hy
    have hg : ∀ w, (eqGuard op t x y (a.eval x) (a.eval y)).run P w = .ok () w := fun w => run_eqGuard_no _ _ _ _ _ _ _ (.inr ⟨by simp [hx], .inl (by simp [hx])⟩)
    split at h
    · cases h with | mk h0 h => exact ⟨_, _, fun w => p_bin_run _ t yt x y ho (hg w) (by rw [hx, hy]; simp only [binOp, Op.shift]; rw [if_neg (by omega)]; rfl), .raw _, h.go⟩
    · cases h with | mk h0 h => exact ⟨_, _, fun w => p_bin_run _ t yt x y ho (hg w) (by rw [hx, hy]; simp only [binOp, Op.shift]; rw [if_neg (by omega)]; rfl), .raw _, h.go⟩
    · rename_i n1 n2
      split at h
      · rename_i hk
        have hk := keq_eq hk
        subst hk
        obtain ⟨v, sv, h1, h2, h3, h4⟩ := vcInt_ok (P := P) (T := T) h ⟨n1, n2⟩
        exact ⟨v, sv, fun w => p_bin_run _ t yt x y ho (hg w) (by rw [hx, hy, h2]; exact h1 w), h3, h4⟩
      · exact h.elim
  · -- strings
    rename_i p q
    have hx := raw_inv hx
    have hy := raw_inv hy
    have hg : ∀ w, (eqGuard op t x y (a.eval x) (a.eval y)).run P w = .ok () w := fun w => run_eqGuard_no _ _ _ _ _ _ _ (.inr ⟨by simp [hx], .inl (by simp [hx])⟩)
    have hl : (p.toList == q.toList) = decide (p = q) := by
      by_cases e : p = q
      · subst e; simp
      · have : p.toList ≠ q.toList := fun h => e (by
          rw [ByteArray.toList_eq, ByteArray.toList_eq] at h
          exact ByteArray.ext (Array.ext' h))
        simp [e, this]
    split at h
    · exact ⟨_, _, fun w => p_bin_run _ t yt x y ho (hg w) (by rw [hx, hy]; simp only [binOp, Op.stringOp]; rfl), .raw _, h.go _ (by rw [hl]; simp)⟩
    · exact ⟨_, _, fun w => p_bin_run _ t yt x y ho (hg w) (by rw [hx, hy]; simp only [binOp, Op.stringOp]; rfl), .raw _, h.go _ (by rw [hl]; simp)⟩
    · cases h with
      | mk h0 h =>
        refine ⟨_, _, fun w => p_bin_run _ t yt x y ho (hg w) ?_, .raw _, h.go⟩
        rw [hx, hy]
        simp only [binOp, Op.stringOp]
        rw [if_neg (by simp only [IntKind.max, IntKind.bits, IntKind.signed]; simp; omega)]
        rfl
    · exact h.elim
  · -- bools
    rename_i p q
    have hx := raw_inv hx
    have hy := raw_inv hy
    have hg : ∀ w, (eqGuard op t x y (a.eval x) (a.eval y)).run P w = .ok () w := fun w => run_eqGuard_no _ _ _ _ _ _ _ (.inr ⟨by simp [hx], .inl (by simp [hx])⟩)
    split at h
    · rename_i he
      have hu := eqk_bool he
      exact ⟨_, _, fun w => p_bin_run _ t yt x y ho (hg w) (by rw [hx, hy]; simp only [binOp, Sem.run_bind, run_equal_bool hu]; rfl), .raw _, h.go _ (by simp)⟩
    · rename_i he
      have hu := eqk_bool he
      exact ⟨_, _, fun w => p_bin_run _ t yt x y ho (hg w) (by rw [hx, hy]; simp only [binOp, Sem.run_bind, run_equal_bool hu]; rfl), .raw _, h.go _ (by simp)⟩
    · exact h.elim
  · -- an interface value that is not nil
    rename_i p q
    have hx := raw_inv hx
    have hy := raw_inv hy
    have hg : ∀ w, (eqGuard op t x y (a.eval x) (a.eval y)).run P w = .ok () w := fun w => run_eqGuard_no _ _ _ _ _ _ _ (.inr ⟨by simp [hx], .inl (by simp [hx])⟩)
    split at h
    · rename_i he
      obtain ⟨ms, hu⟩ := eqk_err he
      exact ⟨_, _, fun w => p_bin_run _ t yt x y ho (hg w) (by rw [hx, hy]; simp only [binOp, Sem.run_bind, run_equal_iface_nil hu]; rfl), .raw _, h⟩
    · rename_i he
      obtain ⟨ms, hu⟩ := eqk_err he
      exact ⟨_, _, fun w => p_bin_run _ t yt x y ho (hg w) (by rw [hx, hy]; simp only [binOp, Sem.run_bind, run_equal_iface_nil hu]; rfl), .raw _, h⟩
    · exact h.elim
  · -- a pointer that is not nil
    rename_i p q
    obtain ⟨b, base, sz, h1, hx⟩ := ptr_inv hx
    have hy := raw_inv hy
    have hg : ∀ w, (eqGuard op t x y (a.eval x) (a.eval y)).run P w = .ok () w := fun w => run_eqGuard_no _ _ _ _ _ _ _ (.inr ⟨by simp [hx], .inl (by simp [hx])⟩)
    split at h
    · rename_i he
      obtain ⟨e, hu⟩ := eqk_ptr he
      exact ⟨_, _, fun w => p_bin_run _ t yt x y ho (hg w) (by rw [hx, hy]; simp only [binOp, Sem.run_bind, run_equal_ptr_nil hu]; rfl), .raw _, h⟩
    · rename_i he
      obtain ⟨e, hu⟩ := eqk_ptr he
      exact ⟨_, _, fun w => p_bin_run _ t yt x y ho (hg w) (by rw [hx, hy]; simp only [binOp, Sem.run_bind, run_equal_ptr_nil hu]; rfl), .raw _, h⟩
    · exact h.elim
  · exact h.elim

end Go.SX

/- The symbolic machine: operations that touch no memory: the rest, and all of them. -/
namespace Go.SX
open Go

variable {P : Program} {T : List Blk} {tm : Tm} {a : Act} {o : Oper} {K : SV → Prop}

theorem p_bin (op : BinOp) (t yt : TypeId) (x y : Operand) (ho : o.op = .binOp op t x y yt) (ht : DT T tm a.tmps) (h : vcPure (.bin op (eqk P t) t x y) tm K) : PureOk P T a o K := by
  simp only [vcPure] at h
  have hx := ev_ok ht x
  have hy := ev_ok ht y
  split at h
  · rename_i _ _ he
    split at h
    · rename_i he2
      rw [he2] at hx h
      have hx := raw_inv hx
      simp only [vcNil] at h
      have hg : ∀ w, (eqGuard op t x (.const .nilIface) (a.eval x) (a.eval (.const .nilIface))).run P w = .ok () w := by
        intro w
        rw [hx]
        unfold eqGuard
        cases op <;> first | rfl | simp [Act.eval]
      obtain ⟨ms, hu⟩ := eqk_err he
      split at h
      · exact ⟨_, _, fun w => p_bin_run _ t yt x _ ho (hg w) (by rw [hx]; simp only [Act.eval, binOp, Sem.run_bind, run_equal_nil_nil hu]; rfl), .raw _, h⟩
      · exact ⟨_, _, fun w => p_bin_run _ t yt x _ ho (hg w) (by rw [hx]; simp only [Act.eval, binOp, Sem.run_bind, run_equal_nil_nil hu]; rfl), .raw _, h⟩
      · exact h.elim
    · exact p_vcBin op t yt x _ ho _ _ hx hy h
  · exact p_vcBin op t yt x _ ho _ _ hx hy h

theorem p_un (op : UnOp) (t : TypeId) (x : Operand) (ho : o.op = .unOp op t x) (ht : DT T tm a.tmps) (h : vcPure (.un op x) tm K) : PureOk P T a o K := by
  simp only [vcPure] at h
  have hx := ev_ok ht x
  split at h
  · rename_i b he
    rw [he] at hx
    have hx := raw_inv hx
    split at h
    · exact ⟨_, _, fun w => by simp [execOp, ho, hx, Op.unary], .raw _, h⟩
    · exact ⟨_, _, fun w => by simp [execOp, ho, hx, Op.unary], .raw _, h⟩
  · rename_i k n he
    rw [he] at hx
    have hx := raw_inv hx
    exact ⟨_, _, fun w => by simp only [execOp, ho, hx, Op.unary, Op.intArith, Sem.run_bind, Sem.run_pure, Result.andThen_ok], .raw _, h.go⟩
  · exact h.elim

theorem p_mki (t : TypeId) (x : Operand) (ho : o.op = .makeInterface t x) (hu : ∃ d, P.underlying t = some d ∧ ∀ ms, d ≠ .interface ms) (ht : DT T tm a.tmps) (h : vcPure (.mki t x) tm K) : PureOk P T a o K := by
  simp only [vcPure] at h
  have hx := ev_ok ht x
  obtain ⟨d, hu, hd⟩ := hu
  have hr : ∀ w, (execOp a.eval o).run P w = .ok (.value (.iface t (a.eval x))) w := by
    intro w
    simp only [execOp, ho, Instr.makeInterface, Sem.run_bind, run_underlying hu, Result.andThen_ok]
    cases d <;> first | rfl | exact absurd rfl (hd _)
  split at h
  · rename_i v he
    rw [he] at hx
    have hx := raw_inv hx
    rw [hx] at hr
    exact ⟨_, _, hr, .raw _, h⟩
  · exact ⟨_, _, hr, .ifc hx, h⟩

theorem p_mkf (f : Fn) (p q : Array Operand) (ho : o.op = .makeFunc f p q) (ht : DT T tm a.tmps) (h : vcPure (.mkf f p.toList q.toList) tm K) : PureOk P T a o K := by
  refine ⟨.func f (p.map a.eval) (q.map a.eval), _, fun w => ?_, ?_, h⟩
  · simp [execOp, ho, Instr.makeFunc]
  · exact .fn (by simpa using evs_ok ht p.toList) (by simpa using evs_ok ht q.toList)

theorem run_fieldAt (s : TypeId) (fs : Array Field) (y : Field) (f : Nat) (i : TypeInfo) (hu : P.underlying s = some (.struct fs)) (hf : fs[f]? = some y) (hi : P.info? y.type = some i) (hs : i.size ≠ 0)
    (b off : Nat) (w : World) : (Instr.fieldAt s (.pointer (some ⟨b, off, none⟩)) f).run P w = .ok (.pointer (some ⟨b, off + y.offset, none⟩)) w := by
  simp [Instr.fieldAt, Instr.sureAddr, Sem.run_bind, run_underlying hu, hf, fieldPlace, sizeOf, typeInfo, hi, hs, Addr.add_mid]

theorem p_fad (t : TypeId) (x : Operand) (f : Nat) (fs : Array Field) (y : Field) (i : TypeInfo) (ho : o.op = .fieldAddr t x f) (hu : P.underlying t = some (.struct fs)) (hf : fs[f]? = some y)
    (hi : P.info? y.type = some i) (hs : i.size ≠ 0) (ht : DT T tm a.tmps) (h : vcPure (.fad y.offset x) tm K) : PureOk P T a o K := by
  simp only [vcPure] at h
  have hx := ev_ok ht x
  split at h
  · rename_i he
    rw [he] at hx
    obtain ⟨b, base, sz, h1, hv⟩ := ptr_inv hx
    exact ⟨_, _, fun w => by simp only [execOp, ho, hv, Sem.run_bind, run_fieldAt t fs y f i hu hf hi hs]; rfl, by rw [Nat.add_assoc]; exact .ptr h1, h⟩
  · rename_i he
    rw [he] at hx
    obtain ⟨b, base, sz, h1, hv⟩ := ep_inv hx
    exact ⟨_, _, fun w => by simp only [execOp, ho, hv, Sem.run_bind, run_fieldAt t fs y f i hu hf hi hs]; rfl, by rw [Nat.add_assoc]; exact .ep h1, h⟩
  · rename_i he
    rw [he] at hx
    obtain ⟨b, base, sz, cap, h1, hv⟩ := rep_inv hx
    exact ⟨_, _, fun w => by simp only [execOp, ho, hv, Sem.run_bind, run_fieldAt t fs y f i hu hf hi hs]; rfl, by rw [Nat.add_assoc]; exact .rep h1, h⟩
  · exact h.elim

theorem run_indexAt_slice (t e : TypeId) (i : TypeInfo) (hu : P.underlying t = some (.slice e)) (hi : P.info? e = some i) (b off len cap : Nat) (k : IntKind) (j : Int) (h0 : 0 ≤ j) (h1 : j < len) (w : World) :
    (Instr.indexAt t (.slice (some ⟨b, off, none⟩) len cap) (.int k j)).run P w = .ok (.pointer (some ⟨b, off + j.toNat * i.size, none⟩)) w := by
  simp [Instr.indexAt, asIntOf, Sem.run_bind, run_underlying hu, sizeOf, typeInfo, hi, h0, h1, Addr.add_mid]

theorem run_indexAt_arr (t e m : Nat) (i : TypeInfo) (hu : P.underlying t = some (.array m e)) (hi : P.info? e = some i) (b off : Nat) (k : IntKind) (j : Int) (h0 : 0 ≤ j) (h1 : j < m) (w : World) :
    (Instr.indexAt t (.pointer (some ⟨b, off, none⟩)) (.int k j)).run P w = .ok (.pointer (some ⟨b, off + j.toNat * i.size, none⟩)) w := by
  simp [Instr.indexAt, Instr.sureAddr, asIntOf, Sem.run_bind, run_underlying hu, sizeOf, typeInfo, hi, h0, h1, Addr.add_mid]

theorem Ix.go {i0 : Nat} {i : Int} {len : Unit → Nat} {K : Nat → Prop} (h : Ix i0 i len K) : 0 ≤ i ∧ i < len () ∧ K (i0 + i.toNat) := by
  cases h with | mk h0 h1 h => exact ⟨h0, h1, h _ (by omega)⟩

theorem p_iad_sl (t e : TypeId) (i : TypeInfo) (x y : Operand) (ho : o.op = .indexAddr t x y) (hu : P.underlying t = some (.slice e)) (hi : P.info? e = some i)
    (ht : DT T tm a.tmps) (h : vcPure (.iad (.sl i.size) x y) tm K) : PureOk P T a o K := by
  simp only [vcPure] at h
  have hx := ev_ok ht x
  have hy := ev_ok ht y
  split at h
  · rename_i w n off i0 w' len cap k j e1 e2 e3
    simp only [IAK.sl.injEq] at e1
    subst e1
    rw [e2] at hx
    rw [e3] at hy
    have hy := raw_inv hy
    split at h
    · rename_i hw
      have hw := Nat.eq_of_beq_eq_true hw
      subst hw
      obtain ⟨h0, h1, h⟩ := h.go
      rcases sl_inv hx with ⟨b, base, sz, g1, g2, g3, hv⟩ | ⟨_, hl, _⟩ | ⟨_, _, _, _, _, hl, _⟩
      · refine ⟨_, _, fun w => by simp only [execOp, ho, hv, hy, Sem.run_bind, run_indexAt_slice t e i hu hi _ _ _ _ _ _ h0 h1]; rfl, ?_, h⟩
        have : base + off + i0 * i.size + j.toNat * i.size = base + off + (i0 + j.toNat) * i.size + 0 := by rw [Nat.add_mul]; omega
        rw [this]
        exact .ep g1
      · subst hl; omega
      · subst hl; omega
    · exact h.elim
  · rename_i w q len cap k j e1 e2 e3
    simp only [IAK.sl.injEq] at e1
    subst e1
    rw [e2] at hx
    rw [e3] at hy
    have hy := raw_inv hy
    have hx := raw_inv hx
    obtain ⟨h0, h1, h⟩ := h.go
    split at h
    case h_2 => exact h.elim
    rename_i b off _ _
    refine ⟨_, _, fun w => by simp only [execOp, ho, hx, hy, Sem.run_bind, run_indexAt_slice t e i hu hi _ _ _ _ _ _ h0 h1]; rfl, ?_, h⟩
    have : off + j.toNat * i.size = off + (0 + j.toNat) * i.size + 0 := by simp
    rw [this]
    exact .rep rfl
  · rename_i e1 _ _; cases e1
  · rename_i e1 _ _; cases e1
  · exact h.elim

theorem p_iad_arr (t e m : Nat) (i : TypeInfo) (fl : Bool) (x y : Operand) (ho : o.op = .indexAddr t x y) (hu : P.underlying t = some (.array m e)) (hi : P.info? e = some i)
    (ht : DT T tm a.tmps) (h : vcPure (.iad (.arr m i.size fl) x y) tm K) : PureOk P T a o K := by
  simp only [vcPure] at h
  have hx := ev_ok ht x
  have hy := ev_ok ht y
  split at h
  · rename_i e1 _ _; cases e1
  · rename_i e1 _ _; cases e1
  · rename_i m' w n off k j e1 e2 e3
    simp only [IAK.arr.injEq] at e1
    obtain ⟨rfl, rfl, rfl⟩ := e1
    rw [e2] at hx
    rw [e3] at hy
    have hy := raw_inv hy
    obtain ⟨b, base, sz, g1, hv⟩ := ptr_inv hx
    obtain ⟨h0, h1, h⟩ := h.go
    refine ⟨_, _, fun w => by simp only [execOp, ho, hv, hy, Sem.run_bind, run_indexAt_arr t e m i hu hi _ _ _ _ h0 h1]; rfl, ?_, h⟩
    have : base + off + j.toNat * i.size = base + off + (0 + j.toNat) * i.size + 0 := by simp
    rw [this]
    exact .ep g1
  · rename_i m' w n off k j e1 e2 e3
    simp only [IAK.arr.injEq] at e1
    obtain ⟨rfl, rfl, rfl⟩ := e1
    rw [e2] at hx
    rw [e3] at hy
    have hy := raw_inv hy
    obtain ⟨b, base, sz, g1, hv⟩ := ptr_inv hx
    split at h
    · rename_i hlt
      have hlt : j < m := by simpa [Nat.blt_eq] using hlt
      refine ⟨_, _, fun w => by simp only [execOp, ho, hv, hy, Sem.run_bind, run_indexAt_arr t e m i hu hi _ _ _ (Int.ofNat j) (by simp) (by simp; omega)]; rfl, ?_, h⟩
      rw [Nat.add_assoc]
      exact .ptr g1
    · exact h.elim
  · exact h.elim

theorem p_idx_str (t : TypeId) (x y : Operand) (ho : o.op = .index t x y) (hu : P.underlying t = some .string)
    (ht : DT T tm a.tmps) (h : vcPure (.idx .str x y) tm K) : PureOk P T a o K := by
  simp only [vcPure] at h
  have hx := ev_ok ht x
  have hy := ev_ok ht y
  split at h
  · rename_i s k j e1 e2 e3
    rw [e2] at hx
    rw [e3] at hy
    have hy := raw_inv hy
    have hx := raw_inv hx
    obtain ⟨h0, h1, h⟩ := h.go
    have hlt : j.toNat < s.size := by omega
    have hlt' : j.toNat < s.data.size := hlt
    have hg : s[j.toNat]? = some (s.data[j.toNat]'hlt') := by
      rw [getElem?_pos s j.toNat hlt]; rfl
    have h : K (.raw (.int .u8 (s.data[j.toNat]'hlt').toNat)) := by
      cases h with
      | mk h => exact h _ _ (by simp [hlt']) rfl
    refine ⟨.int .u8 (s.data[j.toNat]'hlt').toNat, _, fun w => ?_, .raw _, h⟩
    simp only [execOp, ho, hx, hy, Instr.index, asIntOf, Sem.run_bind, Sem.run_pure, Result.andThen_ok, run_underlying hu, if_pos h0, hg]
  · exact h.elim

theorem DL.nth {T : List Blk} : ∀ {s : SC} {l : List Value} {n : Nat} {x : SV}, DL T s l → s.nth n = some x → ∃ v, l[n]? = some v ∧ DV T x v
  | .nil, _, _, _, _, hd => by simp [SC.nth] at hd
  | .cons k v r, l, n, x, h, hd => by
    cases h with
    | cons p q =>
      cases n with
      | zero => simp [SC.nth] at hd; subst hd; exact ⟨_, by simp, p⟩
      | succ n =>
        simp only [SC.nth] at hd
        obtain ⟨u, h1, h2⟩ := DL.nth q hd
        exact ⟨u, by simpa using h1, h2⟩

theorem p_ext (x : Operand) (n : Nat) (ho : o.op = .extract x n) (ht : DT T tm a.tmps) (h : vcPure (.ext x n) tm K) : PureOk P T a o K := by
  simp only [vcPure] at h
  have hx := ev_ok ht x
  split at h
  · rename_i cs he
    rw [he] at hx
    obtain ⟨arr, hv, hd⟩ := tup_inv hx
    split at h
    · rename_i v hs
      obtain ⟨u, h1, h2⟩ := DL.nth hd hs
      exact ⟨u, _, fun w => by simp [execOp, ho, hv, Instr.extract, ← Array.getElem?_toList, h1], h2, h⟩
    · exact h.elim
  · rename_i vs he
    rw [he] at hx
    have hv := raw_inv hx
    split at h
    · rename_i v hs
      exact ⟨v, _, fun w => by simp [execOp, ho, hv, Instr.extract, hs], .raw _, h⟩
    · exact h.elim
  · exact h.elim

/-- the bounds of a slice expression -/
theorem run_sliceBound (x : Option Value) (y : Nat) (code : BoundsCode) (k : IntKind) (j : Int) (h0 : 0 ≤ j) (h1 : j ≤ y) (w : World) : (Instr.sliceBound (.int k j) y code).run P w = .ok j.toNat w := by
  simp [Instr.sliceBound, asIntOf, Sem.run_bind, h0, h1]

theorem vcSlB_ok {lo hi : Option Operand} {len cap : Nat} {K' : Nat → Nat → Prop} (ht : DT T tm a.tmps) (isS : Bool) (hlc : len ≤ cap)
    (h : vcSlB (oev tm lo) (oev tm hi) len cap K') :
    ∃ l h', (∀ w, (Instr.sliceBounds isS len cap (lo.map a.eval) (hi.map a.eval) none).run P w = .ok (l, h', cap) w) ∧ l ≤ h' ∧ h' ≤ cap ∧ K' l h' := by
  cases hi with
  | none =>
    cases lo with
    | none => exact ⟨0, len, fun w => by simp [Instr.sliceBounds], Nat.zero_le _, hlc, h⟩
    | some x =>
      have hx := ev_ok ht x
      simp only [oev, vcSlB] at h
      split at h
      · rename_i heq; cases heq
      · rename_i k l heq
        simp only [Option.some.injEq] at heq
        rw [heq] at hx
        have hx := raw_inv hx
        cases h with
        | mk hb h =>
          exact ⟨l.toNat, len, fun w => by simp [Instr.sliceBounds, Sem.run_bind, hx, run_sliceBound none len _ k l hb.1 hb.2], by omega, hlc, h.go _ (by omega)⟩
      · exact h.elim
  | some y =>
    have hy := ev_ok ht y
    simp only [oev, vcSlB] at h
    split at h
    · rename_i heq; cases heq
    · rename_i k j heq
      simp only [Option.some.injEq] at heq
      rw [heq] at hy
      have hy := raw_inv hy
      cases lo with
      | none =>
        simp only at h
        cases h with
        | mk hb h =>
          exact ⟨0, j.toNat, fun w => by cases isS <;> simp [Instr.sliceBounds, Sem.run_bind, hy, run_sliceBound none cap _ k j hb.1 hb.2], Nat.zero_le _, by omega, h.go _ (by omega)⟩
      | some x =>
        have hx := ev_ok ht x
        simp only at h
        split at h
        · rename_i heq; cases heq
        · rename_i k' l heq
          simp only [Option.some.injEq] at heq
          rw [heq] at hx
          have hx := raw_inv hx
          cases h with
          | mk hb h =>
            exact ⟨l.toNat, j.toNat, fun w => by cases isS <;> simp [Instr.sliceBounds, Sem.run_bind, hx, hy, run_sliceBound none cap _ k j (by omega) hb.2.2, run_sliceBound none j.toNat _ k' l hb.1 (by omega)], by omega, by omega, (h.go _ (by omega)).go _ (by omega)⟩
        · exact h.elim
    · exact h.elim

theorem vcSlB3_ok {lo : Option Operand} {y m : Operand} {len cap : Nat} {K' : Nat → Nat → Prop} (ht : DT T tm a.tmps) (isS : Bool) {k0 : IntKind} {c0 : Int} (hm : a.eval m = .int k0 c0) {c : Nat} (h0 : 0 ≤ c0) (hc : c0 ≤ cap) (hcc : (c : Int) = c0)
    (h : vcSlB (oev tm lo) (oev tm (some y)) len c K') :
    ∃ l h', (∀ w, (Instr.sliceBounds isS len cap (lo.map a.eval) ((some y).map a.eval) ((some m).map a.eval)).run P w = .ok (l, h', c) w) ∧ l ≤ h' ∧ h' ≤ c ∧ K' l h' := by
  have hcn : c0.toNat = c := by omega
  have hy := ev_ok ht y
  simp only [oev, vcSlB] at h
  split at h
  · rename_i heq; cases heq
  · rename_i k j heq
    simp only [Option.some.injEq] at heq
    rw [heq] at hy
    have hy := raw_inv hy
    cases lo with
    | none =>
      simp only at h
      cases h with
      | mk hb h =>
        refine ⟨0, j.toNat, fun w => ?_, Nat.zero_le _, by omega, h.go _ (by omega)⟩
        cases isS <;> simp [Instr.sliceBounds, Sem.run_bind, hy, hm, run_sliceBound none cap _ k0 c0 h0 hc, hcn, run_sliceBound none c _ k j hb.1 (by omega)]
    | some x =>
      have hx := ev_ok ht x
      simp only at h
      split at h
      · rename_i heq; cases heq
      · rename_i k' l heq
        simp only [Option.some.injEq] at heq
        rw [heq] at hx
        have hx := raw_inv hx
        cases h with
        | mk hb h =>
          refine ⟨l.toNat, j.toNat, fun w => ?_, by omega, by omega, (h.go _ (by omega)).go _ (by omega)⟩
          cases isS <;> simp [Instr.sliceBounds, Sem.run_bind, hx, hy, hm, run_sliceBound none cap _ k0 c0 h0 hc, hcn, run_sliceBound none c _ k j (by omega) (by omega), run_sliceBound none j.toNat _ k' l hb.1 (by omega)]
      · exact h.elim
  · exact h.elim

end Go.SX

/- The symbolic machine: slices, builtins, conversions that touch no memory; all pure operations together. -/
namespace Go.SX
open Go

variable {P : Program} {T : List Blk} {tm : Tm} {a : Act} {o : Oper} {K : SV → Prop}

theorem p_slc_str (t : TypeId) (x : Operand) (lo hi : Option Operand) (ho : o.op = .slice t x lo hi none) (hu : P.underlying t = some .string)
    (ht : DT T tm a.tmps) (h : vcPure (.slc .str x lo hi none) tm K) : PureOk P T a o K := by
  simp only [vcPure] at h
  have hx := ev_ok ht x
  split at h
  · rename_i s e1 e2
    rw [e2] at hx
    have hx := raw_inv hx
    obtain ⟨l, h', hr, hl, hh, h⟩ := vcSlB_ok (P := P) ht false (Nat.le_refl _) h.go
    exact ⟨_, _, fun w => by simp [execOp, ho, hx, Instr.sliceAt, Instr.slice, Sem.run_bind, run_underlying hu, hr], .raw _, h.go⟩
  · rename_i e1 _; cases e1
  · rename_i e1 _; cases e1
  · exact h.elim

theorem p_slc_sl (t e : TypeId) (i : TypeInfo) (x : Operand) (lo hi : Option Operand) (ho : o.op = .slice t x lo hi none) (hu : P.underlying t = some (.slice e)) (hi' : P.info? e = some i)
    (ht : DT T tm a.tmps) (h : vcPure (.slc (.sl i.size) x lo hi none) tm K) : PureOk P T a o K := by
  simp only [vcPure] at h
  have hx := ev_ok ht x
  split at h
  · rename_i e1 _; cases e1
  · rename_i w n off i0 w' len cap e1 e2
    simp only [SLK.sl.injEq] at e1
    subst e1
    rw [e2] at hx
    split at h
    · rename_i hw
      have hw := Nat.eq_of_beq_eq_true hw
      subst hw
      rcases sl_inv hx with ⟨b, base, sz, g1, g2, g3, hv⟩ | ⟨g1, rfl, rfl, x0, hv⟩ | ⟨b, base, sz, o', g1, rfl, rfl, hv⟩
      · obtain ⟨l, h', hr, hl, hh, h⟩ := vcSlB_ok (P := P) ht true g2 h
        refine ⟨_, _, fun w => by simp [execOp, ho, hv, Instr.sliceAt, Instr.slice, Sem.run_bind, run_underlying hu, hr, sizeOf, typeInfo, hi']; rfl, ?_, h.go.go.go⟩
        by_cases hc : cap = l
        · subst hc
          have : h' = cap := by omega
          subst this
          simp only [if_true, Nat.sub_self]
          exact .sl0 g1
        · rw [if_neg hc, Addr.add_mid]
          have e1 : base + off + i0 * i.size + l * i.size = base + off + (i0 + l) * i.size := by rw [Nat.add_mul]; omega
          rw [e1]
          refine .sl g1 (by omega) ?_
          have e2 : (i0 + l) * i.size + (cap - l) * i.size = i0 * i.size + cap * i.size := by
            rw [← Nat.add_mul, ← Nat.add_mul]; congr 1; omega
          omega
      · obtain ⟨l, h', hr, hl, hh, h⟩ := vcSlB_ok (P := P) ht true (Nat.le_refl _) h
        have : h' = 0 := by omega
        subst this
        have : l = 0 := by omega
        subst this
        exact ⟨.slice x0 0 0, _, fun w => by simp [execOp, ho, hv, Instr.sliceAt, Instr.slice, Sem.run_bind, run_underlying hu, hr, sizeOf, typeInfo, hi'], .slnil g1, h.go.go.go⟩
      · obtain ⟨l, h', hr, hl, hh, h⟩ := vcSlB_ok (P := P) ht true (Nat.le_refl _) h
        have : h' = 0 := by omega
        subst this
        have : l = 0 := by omega
        subst this
        exact ⟨.slice (some ⟨b, o', none⟩) 0 0, _, fun w => by simp [execOp, ho, hv, Instr.sliceAt, Instr.slice, Sem.run_bind, run_underlying hu, hr, sizeOf, typeInfo, hi'], .sl0 g1, h.go.go.go⟩
    · exact h.elim
  · rename_i w ad len cap e1 e2
    simp only [SLK.sl.injEq] at e1
    subst e1
    rw [e2] at hx
    have hv := raw_inv hx
    cases h with
    | mk hlc h =>
    obtain ⟨l, h', hr, hl, hh, h⟩ := vcSlB_ok (P := P) ht true hlc h
    exact ⟨_, _, fun w => by simp [execOp, ho, hv, Instr.sliceAt, Instr.slice, Sem.run_bind, run_underlying hu, hr, sizeOf, typeInfo, hi'], .raw _, h.go _ (.mk rfl hl hh)⟩
  · exact h.elim

theorem p_slc_sl3 (t e : TypeId) (i : TypeInfo) (x m : Operand) (lo hi : Option Operand) (ho : o.op = .slice t x lo hi (some m)) (hu : P.underlying t = some (.slice e)) (hi' : P.info? e = some i)
    (ht : DT T tm a.tmps) (h : vcPure (.slc (.sl i.size) x lo hi (some m)) tm K) : PureOk P T a o K := by
  cases hi with
  | none => simp [vcPure] at h
  | some y =>
    simp only [vcPure] at h
    have hx := ev_ok ht x
    have hm := ev_ok ht m
    split at h
    · rename_i w ad len cap k0 c0 e1 e2 e3
      simp only [SLK.sl.injEq] at e1
      subst e1
      rw [e2] at hx
      rw [e3] at hm
      have hv := raw_inv hx
      have hmv := raw_inv hm
      cases h with
      | mk hb h =>
      have hn := h.go c0.toNat (by omega)
      obtain ⟨l, h', hr, hl, hh, h⟩ := vcSlB3_ok (P := P) ht true hmv hb.1 hb.2 (c := c0.toNat) (by omega) hn
      refine ⟨_, _, fun w => ?_, .raw _, h.go _ (.mk rfl hl hh)⟩
      have hr' : (Instr.sliceBounds true len cap (lo.map a.eval) (some (a.eval y)) (some (a.eval m))).run P w = .ok (l, h', c0.toNat) w := hr w
      simp [execOp, ho, hv, Instr.sliceAt, Instr.slice, Sem.run_bind, run_underlying hu, hr', sizeOf, typeInfo, hi']
    · exact h.elim

theorem call_builtin_run (c : Call) (bi : Builtin) (hc : c.callee = .builtin bi) (ho : o.op = .call c) (w : World) :
    (execOp a.eval o).run P w = (builtin bi c.argTypes o.type (c.args.map fun | .const _ => true | _ => false) (c.args.map a.eval)).run P w := by
  simp [execOp, ho, resolve, hc, invoke]
  rfl

theorem evs1 {xs : List Operand} {s : SV} (ht : DT T tm a.tmps) (h : evs tm xs = [s]) : ∃ v, xs.map a.eval = [v] ∧ DV T s v := by
  cases xs with
  | nil => simp [evs] at h
  | cons x r =>
    cases r with
    | nil => simp [evs] at h; subst h; exact ⟨_, rfl, ev_ok ht x⟩
    | cons y r => simp [evs] at h

theorem evs2 {xs : List Operand} {s s' : SV} (ht : DT T tm a.tmps) (h : evs tm xs = [s, s']) : ∃ v v', xs.map a.eval = [v, v'] ∧ DV T s v ∧ DV T s' v' := by
  cases xs with
  | nil => simp [evs] at h
  | cons x r =>
    cases r with
    | nil => simp [evs] at h
    | cons y r =>
      cases r with
      | nil => simp [evs] at h; obtain ⟨rfl, rfl⟩ := h; exact ⟨_, _, rfl, ev_ok ht x, ev_ok ht y⟩
      | cons z r => simp [evs] at h

theorem arr1 {c : Call} {v : Value} (h : c.args.toList.map a.eval = [v]) : c.args.map a.eval = #[v] := by
  apply Array.ext'; simpa using h
theorem arr2 {c : Call} {v v' : Value} (h : c.args.toList.map a.eval = [v, v']) : c.args.map a.eval = #[v, v'] := by
  apply Array.ext'; simpa using h

def BIOk (P : Program) (b : Builtin) (ts : Array TypeId) : BIK → Prop
  | .lenS => b = .len ∧ ∃ t, ts[0]? = some t ∧ P.underlying t = some .string
  | .lenSl => b = .len ∧ ∃ t e, ts[0]? = some t ∧ P.underlying t = some (.slice e)
  | .lenA n => b = .len ∧ ∃ t e, ts[0]? = some t ∧ P.underlying t = some (.array n e)
  | .lenM => b = .len ∧ ∃ t k e, ts[0]? = some t ∧ P.underlying t = some (.map k e)
  | .capS => b = .cap ∧ ∃ t e, ts[0]? = some t ∧ P.underlying t = some (.slice e)
  | .min => b = .min
  | .max => b = .max
  | .clearM => b = .clear ∧ ∃ t k e, ts[0]? = some t ∧ P.underlying t = some (.map k e)
  | .app w e by_ => b = .append ∧ ∃ t i, ts[0]? = some t ∧ P.underlying t = some (.slice e) ∧ P.info? e = some i ∧ i.size = w ∧ i.bytes = by_ ∧ ts.size = 2 ∧ (∃ z, i.zero = some z ∧ z.cells.size = i.size) ∧ ∃ t' e', ts[1]? = some t' ∧ P.underlying t' = some (.slice e')
  | .appS w e by_ => b = .append ∧ ∃ t i, ts[0]? = some t ∧ P.underlying t = some (.slice e) ∧ P.info? e = some i ∧ i.size = w ∧ i.bytes = by_ ∧ ts.size = 2 ∧ (∃ z, i.zero = some z ∧ z.cells.size = i.size) ∧ ∃ t', ts[1]? = some t' ∧ P.underlying t' = some .string
  | .copy w => b = .copy ∧ ∃ t e i, ts[0]? = some t ∧ P.underlying t = some (.slice e) ∧ P.info? e = some i ∧ i.size = w
  | .del k => b = .delete ∧ ∃ t e, ts[0]? = some t ∧ P.underlying t = some (.map k e)
  | .other => True

theorem trBI_len (b : Builtin) (ts : Array TypeId) : BIOk P b ts (trBI P b ts) := by
  unfold trBI
  have bnd : ∀ {x : Option TypeId} {d : TypeDesc}, x.bind P.underlying = some d → ∃ t, x = some t ∧ P.underlying t = some d := by
    intro x d hx; cases x with
    | none => simp at hx
    | some t => exact ⟨t, rfl, by simpa using hx⟩
  generalize hp : (ts[0]?).bind P.underlying = p
  generalize hq : (ts[1]?).bind P.underlying = q
  split
  · obtain ⟨t, h1, h2⟩ := bnd hp; exact ⟨rfl, t, h1, h2⟩
  · obtain ⟨t, h1, h2⟩ := bnd hp; exact ⟨rfl, t, _, h1, h2⟩
  · obtain ⟨t, h1, h2⟩ := bnd hp; exact ⟨rfl, t, _, h1, h2⟩
  · obtain ⟨t, h1, h2⟩ := bnd hp; exact ⟨rfl, t, _, _, h1, h2⟩
  · obtain ⟨t, h1, h2⟩ := bnd hp; exact ⟨rfl, t, _, h1, h2⟩
  · obtain ⟨t, h1, h2⟩ := bnd hp
    obtain ⟨t', h3, h4⟩ := bnd hq
    split
    · rename_i i hi
      split
      · rename_i z hz
        split
        · rename_i hh; exact ⟨rfl, t, i, h1, h2, hi, rfl, rfl, hh.2, ⟨z, hz, hh.1⟩, t', _, h3, h4⟩
        · trivial
      · trivial
    · trivial
  · obtain ⟨t, h1, h2⟩ := bnd hp
    obtain ⟨t', h3, h4⟩ := bnd hq
    split
    · rename_i i hi
      split
      · rename_i z hz
        split
        · rename_i hh; exact ⟨rfl, t, i, h1, h2, hi, rfl, rfl, hh.2, ⟨z, hz, hh.1⟩, t', h3, h4⟩
        · trivial
      · trivial
    · trivial
  · obtain ⟨t, h1, h2⟩ := bnd hp
    split
    · rename_i i hi; exact ⟨rfl, t, _, i, h1, h2, hi, rfl⟩
    · trivial
  · rfl
  · rfl
  · obtain ⟨t, h1, h2⟩ := bnd hp; exact ⟨rfl, t, _, _, h1, h2⟩
  · obtain ⟨t, h1, h2⟩ := bnd hp; exact ⟨rfl, t, _, h1, h2⟩
  · trivial

theorem p_blt (c : Call) (bi : Builtin) (hc : c.callee = .builtin bi) (ho : o.op = .call c)
    (ht : DT T tm a.tmps) (h : vcPure (.blt (trBI P bi c.argTypes) c.args.toList) tm K) : PureOk P T a o K := by
  simp only [vcPure] at h
  have hb := trBI_len (P := P) bi c.argTypes
  split at h
  · rename_i s e1 e2
    rw [e1] at hb
    obtain ⟨rfl, t, h1, h2⟩ := hb
    obtain ⟨v, hv, hd⟩ := evs1 (a := a) ht e2
    have hd := raw_inv hd
    subst hd
    exact ⟨_, _, fun w => by simp [call_builtin_run c _ hc ho, arr1 hv, builtin, Builtin.len_, h1, run_underlying h2, Sem.run_bind, goInt], .raw _, h.go⟩
  · rename_i n off i w' len cap e1 e2
    rw [e1] at hb
    obtain ⟨rfl, t, e, h1, h2⟩ := hb
    obtain ⟨v, hv, hd⟩ := evs1 (a := a) ht e2
    rcases sl_inv hd with ⟨b, base, sz, g1, g2, g3, rfl⟩ | ⟨g1, rfl, rfl, x0, rfl⟩ | ⟨b, base, sz, o', g1, rfl, rfl, rfl⟩
    all_goals exact ⟨_, _, fun w => by simp [call_builtin_run c _ hc ho, arr1 hv, builtin, Builtin.len_, h1, run_underlying h2, Sem.run_bind, goInt], .raw _, h.go⟩
  · rename_i ad len cap e1 e2
    rw [e1] at hb
    obtain ⟨rfl, t, e, h1, h2⟩ := hb
    obtain ⟨v, hv, hd⟩ := evs1 (a := a) ht e2
    have hd := raw_inv hd
    subst hd
    exact ⟨_, _, fun w => by simp [call_builtin_run c _ hc ho, arr1 hv, builtin, Builtin.len_, h1, run_underlying h2, Sem.run_bind, goInt], .raw _, h.go⟩
  · rename_i n x e1 e2
    rw [e1] at hb
    obtain ⟨rfl, t, e, h1, h2⟩ := hb
    obtain ⟨v, hv, hd⟩ := evs1 (a := a) ht e2
    exact ⟨_, _, fun w => by simp [call_builtin_run c _ hc ho, arr1 hv, builtin, Builtin.len_, h1, run_underlying h2, Sem.run_bind, goInt], .raw _, h⟩
  · rename_i n off i w' len cap e1 e2
    rw [e1] at hb
    obtain ⟨rfl, t, e, h1, h2⟩ := hb
    obtain ⟨v, hv, hd⟩ := evs1 (a := a) ht e2
    rcases sl_inv hd with ⟨b, base, sz, g1, g2, g3, rfl⟩ | ⟨g1, rfl, rfl, x0, rfl⟩ | ⟨b, base, sz, o', g1, rfl, rfl, rfl⟩
    all_goals exact ⟨_, _, fun w => by simp [call_builtin_run c _ hc ho, arr1 hv, builtin, Builtin.cap_, h1, run_underlying h2, Sem.run_bind, goInt], .raw _, h.go⟩
  · rename_i k p k' q e1 e2
    rw [e1] at hb
    subst hb
    obtain ⟨v, v', hv, hd, hd'⟩ := evs2 (a := a) ht e2
    have hd := raw_inv hd
    have hd' := raw_inv hd'
    subst hd hd'
    have h := h.go
    refine ⟨.int k (min p q), _, fun w => ?_, .raw _, h⟩
    simp only [call_builtin_run c _ hc ho, arr2 hv, builtin, Builtin.min_, List.foldlM_cons, List.foldlM_nil, Builtin.min2, Sem.run_bind, Sem.run_pure, Result.andThen_ok]
    congr 3
    split <;> omega
  · rename_i k p k' q e1 e2
    rw [e1] at hb
    subst hb
    obtain ⟨v, v', hv, hd, hd'⟩ := evs2 (a := a) ht e2
    have hd := raw_inv hd
    have hd' := raw_inv hd'
    subst hd hd'
    have h := h.go
    refine ⟨.int k (max p q), _, fun w => ?_, .raw _, h⟩
    simp only [call_builtin_run c _ hc ho, arr2 hv, builtin, Builtin.max_, List.foldlM_cons, List.foldlM_nil, Builtin.max2, Sem.run_bind, Sem.run_pure, Result.andThen_ok]
    congr 3
    split <;> omega
  · exact h.elim

theorem p_cvt (s d : TypeId) (x : Operand) (k : CVK) (ho : o.op = .convert s d x) (hk : trK P o.op = .cvt k x) (ht : DT T tm a.tmps) (h : vcPure (.cvt k x) tm K) : PureOk P T a o K := by
  simp only [vcPure] at h
  have hx := ev_ok ht x
  rw [ho] at hk
  simp only [trK] at hk
  split at h
  · rename_i k' kk n e2
    rw [e2] at hx
    have hx := raw_inv hx
    split at hk
    · rename_i h1 h2
      simp only [OpK.cvt.injEq, CVK.int.injEq, and_true] at hk
      subst hk
      exact ⟨_, _, fun w => by simp [execOp, ho, hx, convert, Sem.run_bind, run_underlying h1, run_underlying h2, Conv.intToInt], .raw _, h.go⟩
    · split at hk <;> simp at hk
    · split at hk <;> simp at hk
    · simp at hk
    · simp at hk
  · rename_i s' e2
    rw [e2] at hx
    have hx := raw_inv hx
    split at hk
    · simp at hk
    · split at hk <;> simp at hk
    · split at hk <;> simp at hk
    · rename_i h1 h2
      exact ⟨_, _, fun w => by simp [execOp, ho, hx, convert, Sem.run_bind, run_underlying h1, run_underlying h2], .raw _, h⟩
    · simp at hk
  · exact h.elim


theorem vcPure_ok (ht : DT T tm a.tmps) (h : vcPure (trK P o.op) tm K) : PureOk P T a o K := by
  cases ho : o.op with
  | move x => rw [ho] at h; exact p_mov x (.inl ho) ht h
  | assign x => rw [ho] at h; exact p_mov x (.inr ho) ht h
  | pick c x y => rw [ho] at h; exact p_pck c x y ho ht h
  | nilCheck x => rw [ho] at h; exact p_nck x ho ht h
  | binOp op t x y yt => rw [ho] at h; exact p_bin op t yt x y ho ht h
  | unOp op t x => rw [ho] at h; exact p_un op t x ho ht h
  | convert s d x =>
    have hk := ho ▸ h
    simp only [trK] at hk
    split at hk
    · rename_i h1 h2; exact p_cvt s d x (.int _) ho (by rw [ho]; simp only [trK, h1, h2]) ht hk
    · split at hk <;> simp [vcPure] at hk
    · split at hk <;> simp [vcPure] at hk
    · rename_i h1 h2; exact p_cvt s d x .same ho (by rw [ho]; simp only [trK, h1, h2]) ht hk
    · simp [vcPure] at hk
  | makeInterface t x =>
    have hk := ho ▸ h
    simp only [trK] at hk
    split at hk
    · simp [vcPure] at hk
    · rename_i d hd hu; exact p_mki t x ho ⟨_, hu, fun ms e => by subst e; exact hd _ rfl⟩ ht hk
    · simp [vcPure] at hk
  | makeFunc f p q => rw [ho] at h; exact p_mkf f p q ho ht h
  | fieldAddr t x f =>
    have hk := ho ▸ h
    simp only [trK] at hk
    split at hk
    · split at hk
      · split at hk
        · split at hk
          · exact p_fad t x f _ _ _ ho (by assumption) (by assumption) (by assumption) (by assumption) ht hk
          · simp [vcPure] at hk
        · simp [vcPure] at hk
      · simp [vcPure] at hk
    · simp [vcPure] at hk
  | indexAddr t x y =>
    have hk := ho ▸ h
    simp only [trK] at hk
    split at hk
    · split at hk
      · exact p_iad_sl t _ _ x y ho (by assumption) (by assumption) ht hk
      · simp [vcPure] at hk
    · split at hk
      · exact p_iad_arr t _ _ _ _ x y ho (by assumption) (by assumption) ht hk
      · simp [vcPure] at hk
    · simp [vcPure] at hk
  | index t x y =>
    have hk := ho ▸ h
    simp only [trK] at hk
    split at hk
    · exact p_idx_str t x y ho (by assumption) ht hk
    · split at hk
      · simp [vcPure] at hk
      · simp [vcPure] at hk
    · simp [vcPure] at hk
  | slice t x lo hi mx =>
    have hk := ho ▸ h
    simp only [trK] at hk
    cases mx with
    | some m =>
      split at hk
      · cases hi <;> simp [vcPure] at hk
      · split at hk
        · exact p_slc_sl3 t _ _ x m lo hi ho (by assumption) (by assumption) ht hk
        · simp [vcPure] at hk
      · split at hk
        · cases hi <;> simp [vcPure] at hk
        · simp [vcPure] at hk
      · simp [vcPure] at hk
    | none =>
      split at hk
      · exact p_slc_str t x lo hi ho (by assumption) ht hk
      · split at hk
        · exact p_slc_sl t _ _ x lo hi ho (by assumption) (by assumption) ht hk
        · simp [vcPure] at hk
      · split at hk
        · simp [vcPure] at hk
        · simp [vcPure] at hk
      · simp [vcPure] at hk
  | extract x n => rw [ho] at h; exact p_ext x n ho ht h
  | call c =>
    have hk := ho ▸ h
    simp only [trK] at hk
    split at hk
    · simp [vcPure] at hk
    · rename_i b hc; exact p_blt c b hc ho ht hk
    · simp [vcPure] at hk
  | load t x => rw [ho] at h; simp only [trK] at h; split at h <;> simp [vcPure] at h
  | store t x y => rw [ho] at h; simp only [trK] at h; split at h <;> simp [vcPure] at h
  | alloc e => rw [ho] at h; simp only [trK] at h; split at h <;> simp [vcPure] at h
  | box e x => rw [ho] at h; simp only [trK] at h; split at h <;> simp [vcPure] at h
  | build t ps =>
    rw [ho] at h; simp only [trK] at h
    split at h
    · split at h <;> simp [vcPure] at h
    · split at h <;> simp [vcPure] at h
    · simp [vcPure] at h
  | buildSlice t n ps =>
    rw [ho] at h; simp only [trK] at h
    split at h
    · split at h
      · split at h
        · split at h <;> simp [vcPure] at h
        · simp [vcPure] at h
      · simp [vcPure] at h
    · simp [vcPure] at h
  | makeMap t r => rw [ho] at h; cases r <;> simp [trK, vcPure] at h
  | makeSlice t l c =>
    rw [ho] at h; simp only [trK] at h
    split at h
    · split at h
      · split at h <;> simp [vcPure] at h
      · simp [vcPure] at h
    · simp [vcPure] at h
  | field t x f =>
    rw [ho] at h; simp only [trK] at h
    split at h
    · split at h
      · split at h <;> simp [vcPure] at h
      · simp [vcPure] at h
    · simp [vcPure] at h
  | _ => rw [ho] at h; simp [trK, vcPure] at h

end Go.SX

/-
  How a symbolic heap follows the real one.
-/
import Derived.Test.YtalhhkjdlnamdaaDoorSb
/- The symbolic machine: operations that read memory. -/
namespace Go.SX
open Go

variable {P : Program} {T : List Blk} {tm : Tm} {a : Act} {o : Oper} {K : SV → Prop} {w : World} {R : RO} {H : List SObj}

theorem trAK_sc {t : TypeId} (h : trAK P t = some .sc) : ∃ i d, P.info? t = some i ∧ P.underlying t = some d ∧ d.isRow = false ∧ i.size = 1 := by
  unfold trAK at h
  split at h
  · rename_i i d hi hd
    refine ⟨i, d, hi, hd, ?_⟩
    split at h
    · cases h
    · cases h
    · rename_i n1 n2
      split at h
      · refine ⟨?_, by assumption⟩
        cases d <;> first | rfl | exact absurd rfl (n1 _) | exact absurd rfl (n2 _ _)
      · cases h
  · cases h

theorem trAK_ag {t : TypeId} {n : Nat} {ws : List Nat} (h : trAK P t = some (.ag n ws)) : ∃ i d, P.info? t = some i ∧ P.underlying t = some d ∧ d.isRow = true ∧ i.size = n := by
  unfold trAK at h
  split at h
  · rename_i i d hi hd
    refine ⟨i, d, hi, hd, ?_⟩
    split at h
    · simp only [Option.some.injEq, AK.ag.injEq] at h; exact ⟨rfl, h.1⟩
    · simp only [Option.some.injEq, AK.ag.injEq] at h; exact ⟨rfl, h.1⟩
    · split at h <;> cases h
  · cases h

theorem run_isAgg {t : TypeId} {d : TypeDesc} (hu : P.underlying t = some d) (w : World) : (isAgg t).run P w = .ok d.isRow w := by
  unfold isAgg
  rw [Sem.run_bind, run_underlying hu w]
  cases d <;> rfl

theorem run_loadVar_sc {t : TypeId} (h : trAK P t = some .sc) (ad : Addr) (v : Value) (hc : w.cell? ad = some v) : (loadVar t ad).run P w = .ok v w := by
  obtain ⟨i, d, hi, hu, hd, hs⟩ := trAK_sc h
  simp [loadVar, Sem.run_bind, run_isAgg hu, hd, run_load, hc]

theorem run_loadVar_ag {t : TypeId} {n : Nat} {ws : List Nat} (h : trAK P t = some (.ag n ws)) (b off : Nat) (arr : Array Value) (e : TypeId) (fr : Nat × Nat)
    (hb : w.heap[b]? = some (.cells arr e fr)) (hle : off + n ≤ arr.size) : (loadVar t ⟨b, off, none⟩).run P w = .ok (.agg (arr.extract off (off + n))) w := by
  obtain ⟨i, d, hi, hu, hd, hs⟩ := trAK_ag h
  have e1 : arr.extract off (off + n) = ((arr.toList.drop off).take n).toArray := by
    apply Array.ext'
    simp [Nat.add_sub_cancel_left]
  rw [e1]
  refine run_loadVar_mid (P := P) w b off t ((arr.toList.drop off).take n) d ?_ hu hd ?_
  · intro j v hj
    simp only [World.cell?, hb]
    rw [List.getElem?_take] at hj
    split at hj
    · simpa using hj
    · cases hj
  · simp [hi, hs]; omega

/-- an operation that may read memory, and writes none -/
def ReadOk (P : Program) (T : List Blk) (a : Act) (o : Oper) (w : World) (K : SV → Prop) : Prop :=
  ∃ v sv, (execOp a.eval o).run P w = .ok (.value v) w ∧ DV T sv v ∧ K sv

theorem hget_dead {H : List SObj} {n : Nat} (h : (hget H n).live = true) : H[n]? = some (hget H n) := by
  induction H generalizing n with
  | nil => simp [hget, SObj.live] at h
  | cons x r ih =>
    cases n with
    | zero => rfl
    | succ n => simp only [hget] at h ⊢; simpa using ih h

theorem hget_some {H : List SObj} {n : Nat} {x : SObj} (h : hget H n = x) (hl : x.live = true) : H[n]? = some x := by
  subst h; exact hget_dead hl

def LdRes (T : List Blk) (l : List Value) (off : Nat) (v : SV) : AK → Prop
  | .sc => ∃ x, l[off]? = some x ∧ DV T v x
  | .ag n _ => off + n ≤ l.length ∧ DV T v (.agg ((l.drop off).take n).toArray)

theorem ldC_ok {cs : SC} {l : List Value} (hd : DC T cs l) {k : AK} {off : Nat} {v : SV} (h : ldC k cs off = some v) : LdRes T l off v k := by
  cases k with
  | sc => exact DC.sub hd h
  | ag n ws =>
    simp only [ldC] at h
    show off + n ≤ l.length ∧ DV T v (.agg ((l.drop off).take n).toArray)
    split at h
    · rename_i r hr
      have h1 := DC.drop hd hr
      have hlen : (l.drop off).length = l.length - off := by simp
      split at h
      · rename_i w x q
        have gather : (match (SC.cons w x q).take n with | some t => some (SV.agg t) | none => none) = some v → off + n ≤ l.length ∧ DV T v (.agg ((l.drop off).take n).toArray) := by
          intro h
          split at h
          · rename_i t ht
            have h2 := DC.take h1.1 ht
            simp only [Option.some.injEq] at h
            subst h
            refine ⟨by have := h2.2; omega, .agg (by simpa using h2.1)⟩
          · cases h
        split at h
        · rename_i e1 e2
          have e1 := Nat.eq_of_beq_eq_true e1
          subst e1
          simp only [Option.some.injEq] at h
          subst h
          have hn : w ≠ 1 := by intro e; subst e; simp at e2
          have h3 := h1.1
          generalize l.drop off = m at h3 hlen
          cases h3 with
          | one => exact absurd rfl hn
          | many p q' c d e =>
            rename_i arr l'
            have hl : arr.toList.length = w := by simpa using c
            refine ⟨by simp at hlen; omega, ?_⟩
            rw [List.take_append, hl, List.take_of_length_le (by omega)]
            simpa using q'
        · exact gather h
      · split at h
        · simp only [Option.some.injEq] at h
          subst h
          exact ⟨by have := h1.2; omega, .agg (by simpa using DC.nil)⟩
        · cases h
    · cases h

theorem vcells_scal {v : Value} (h : scal v = true) : vcells v = [v] := by
  cases v <;> first | rfl | cases h

theorem EOk.len {w : Nat} {v : Value} (h : EOk w v) : (vcells v).length = w := by
  by_cases hw : w = 1
  · subst hw; rw [vcells_scal (h.1 rfl)]; rfl
  · obtain ⟨arr, rfl, h1, _⟩ := h.2 hw; simpa [vcells, Value.cells] using h1

theorem EOk.scal {w : Nat} {v : Value} (h : EOk w v) : ∀ x ∈ vcells v, SX.scal x = true := by
  by_cases hw : w = 1
  · subst hw; rw [vcells_scal (h.1 rfl)]; intro x hx; simp at hx; subst hx; exact h.1 rfl
  · obtain ⟨arr, rfl, _, h1⟩ := h.2 hw; exact h1

theorem flat_len {w : Nat} : ∀ {es : List Value}, (∀ v ∈ es, EOk w v) → (es.flatMap vcells).length = es.length * w
  | [], _ => by simp
  | x :: r, h => by
    simp only [List.flatMap_cons, List.length_append, List.length_cons, (h x (by simp)).len, flat_len (es := r) (fun v hv => h v (by simp [hv]))]
    rw [Nat.add_mul, Nat.one_mul, Nat.add_comm]

theorem flat_get {w : Nat} : ∀ {es : List Value} {i : Nat} {v : Value}, (∀ v ∈ es, EOk w v) → es[i]? = some v → ∃ l r, es.flatMap vcells = l ++ (vcells v ++ r) ∧ l.length = i * w
  | [], i, v, _, h => by simp at h
  | x :: q, 0, v, ha, h => by
    simp at h; subst h
    exact ⟨[], q.flatMap vcells, by simp, by simp⟩
  | x :: q, i + 1, v, ha, h => by
    obtain ⟨l, r, h1, h2⟩ := flat_get (es := q) (i := i) (v := v) (fun v hv => ha v (by simp [hv])) (by simpa using h)
    refine ⟨vcells x ++ l, r, by simp [h1], ?_⟩
    rw [List.length_append, h2, (ha x (by simp)).len, Nat.add_mul, Nat.one_mul, Nat.add_comm]

theorem mid_get {l m r : List Value} {n j : Nat} (hl : l.length = n) (hj : j < m.length) : (l ++ (m ++ r))[n + j]? = m[j]? := by
  rw [List.getElem?_append_right (by omega), hl, Nat.add_sub_cancel_left, List.getElem?_append_left hj]

theorem mid_take {l m r : List Value} {n o k : Nat} (hl : l.length = n) (hj : o + k ≤ m.length) : ((l ++ (m ++ r)).drop (n + o)).take k = (m.drop o).take k := by
  rw [List.drop_append, hl]
  have e1 : List.drop (n + o) l = [] := List.drop_eq_nil_of_le (by omega)
  rw [e1, List.nil_append, Nat.add_sub_cancel_left, List.drop_append, List.take_append, List.length_drop]
  have : k - (m.length - o) = 0 := by omega
  rw [this, List.take_zero, List.append_nil]

theorem part_ok {t : TypeId} {k : AK} (hk : trAK P t = some k) {b' base' i w' fo : Nat} {arr : Array Value} {e : TypeId} {fr : Nat × Nat} {es pre post : List Value} {v x : Value} (g2 : w.heap[b']? = some (.cells arr e fr))
    (g3 : arr.toList = pre ++ (es.flatMap vcells ++ post)) (g4 : pre.length = base') (g5 : ∀ v ∈ es, EOk w' v) (hv : es[i]? = some v) (hx : part k v w' fo = some x) :
    (Instr.loadAt t (.pointer (some ⟨b', base' + i * w' + fo, none⟩))).run P w = .ok x w := by
  have plain : ∀ b off v, (loadVar t ⟨b, off, none⟩).run P w = .ok v w → (Instr.loadAt t (.pointer (some ⟨b, off, none⟩))).run P w = .ok v w := by
    intro b off v hv; simp [Instr.loadAt, Instr.sureAddr, Sem.run_bind, hv]
  have hv5 := g5 v (List.mem_of_getElem? hv)
  obtain ⟨l, r, e1, e2⟩ := flat_get g5 hv
  have harr : arr.toList = (pre ++ l) ++ (vcells v ++ (r ++ post)) := by rw [g3, e1]; simp
  have hlen : (pre ++ l).length = base' + i * w' := by simp [g4, e2]
  have hsz : arr.size = (pre ++ l).length + (w' + (r ++ post).length) := by
    rw [← Array.length_toList, harr]
    simp only [List.length_append, hv5.len]
  cases k with
  | sc => -- one cell
    simp only [part] at hx
    split at hx
    · -- of one
      split at hx
      · simp only [Option.some.injEq] at hx
        subst hx
        have hs := hv5.1 rfl
        refine plain _ _ _ (run_loadVar_sc hk _ v ?_)
        simp only [World.cell?, g2]
        have := mid_get (m := vcells v) (r := r ++ post) (j := 0) hlen (by rw [vcells_scal hs]; simp)
        rw [← harr, vcells_scal hs] at this
        simpa using this
      · cases hx
    · rename_i hw1
      split at hx
      · rename_i hlt
        have hlt : fo < w' := by simpa [Nat.blt_eq] using hlt
        simp only [Option.some.injEq] at hx
        subst hx
        obtain ⟨av, rfl, a1, a2⟩ := hv5.2 (fun e => hw1 (by rw [e]))
        refine plain _ _ _ (run_loadVar_sc hk _ _ ?_)
        simp only [World.cell?, g2]
        have := mid_get (m := vcells (.agg av)) (r := r ++ post) (j := fo) hlen (by simp [vcells, Value.cells]; omega)
        rw [← harr] at this
        have hlt2 : fo < av.size := by omega
        simp only [vcells, Value.cells] at this
        simpa [cellAt, Array.getD, hlt2] using this
      · cases hx
  | ag n' ws' =>
    simp only [part] at hx
    split at hx
    · cases hx
    · rename_i hw1
      obtain ⟨av, rfl, a1, a2⟩ := hv5.2 (fun e => hw1 (by rw [e]))
      have ext : fo + n' ≤ w' →
          (Instr.loadAt t (.pointer (some ⟨b', base' + i * w' + fo, none⟩))).run P w = .ok (subAgg (.agg av) fo n') w := by
        intro hle
        have e0 := plain _ _ _ (run_loadVar_ag hk b' (base' + i * w' + fo) arr _ _ g2 (by rw [hsz, hlen]; omega))
        have e3 : arr.extract (base' + i * w' + fo) (base' + i * w' + fo + n') = av.extract fo (fo + n') := by
          apply Array.ext'
          have := mid_take (m := vcells (.agg av)) (r := r ++ post) (o := fo) (k := n') hlen (by simp [vcells, Value.cells]; omega)
          rw [← harr] at this
          simpa [vcells, Value.cells, Nat.add_sub_cancel_left] using this
        rw [e3] at e0
        exact e0
      split at hx
      · rename_i _ _ e1
        have e1 := Nat.eq_of_beq_eq_true e1
        simp only [Option.some.injEq] at hx
        subst hx
        have e4 := ext (by omega)
        have : subAgg (.agg av) 0 n' = .agg av := by simp [subAgg, e1, ← a1]
        rw [this] at e4; exact e4
      · split at hx
        · rename_i hle
          simp only [Option.some.injEq] at hx
          subst hx
          exact ext (Nat.le_of_ble_eq_true hle)
        · cases hx

theorem vcLd_ok (hdh : DH P w R T H) {t : TypeId} {k : AK} (hk : trAK P t = some k) {sa : SV} {va : Value} (ha : DV T sa va) (h : vcLd k R H sa K) :
    ∃ v sv, (Instr.loadAt t va).run P w = .ok v w ∧ DV T sv v ∧ K sv := by
  have ldr : ∀ ad, LdR R ad k K → ∃ v sv, (Instr.loadAt t (.pointer (some ad))).run P w = .ok v w ∧ DV T sv v ∧ K sv := by
    intro ad h
    have hr : ∀ v, (loadVar t ad).run P w = .ok v w → (Instr.loadAt t (.pointer (some ad))).run P w = .ok v w := by
      intro v hv; simp [Instr.loadAt, Instr.sureAddr, Sem.run_bind, hv]
    cases h with
    | sc e hs hb hv hK =>
      subst e
      have := hdh.ro _ _ hb
      exact ⟨_, _, hr _ (run_loadVar_sc hk ad _ (by simp [World.cell?, this, hs, hv])), .raw _, hK⟩
    | ag e hs hb hv hK =>
      subst e
      obtain ⟨b, off, sp⟩ := ad
      simp only at hs
      subst hs
      have := hdh.ro _ _ hb
      exact ⟨_, _, hr _ (run_loadVar_ag hk b off _ _ _ this hv), .raw _, hK⟩
  have plain : ∀ b off v, (loadVar t ⟨b, off, none⟩).run P w = .ok v w → (Instr.loadAt t (.pointer (some ⟨b, off, none⟩))).run P w = .ok v w := by
    intro b off v hv; simp [Instr.loadAt, Instr.sureAddr, Sem.run_bind, hv]
  unfold vcLd at h
  split at h
  · have := raw_inv ha
    subst this
    split at h
    · exact ldr _ h
    · exact h.elim
  · rename_i n off
    obtain ⟨b, base, sz, h1, rfl⟩ := ptr_inv ha
    split at h
    · rename_i cs e hc
      have ho := hdh.obj n _ (hget_some hc rfl)
      obtain ⟨b', arr, g1, g2, g3⟩ := ho
      rw [g1] at h1
      simp only [Option.some.injEq, Blk.at.injEq] at h1
      obtain ⟨rfl, rfl, rfl⟩ := h1
      split at h
      · rename_i v hv
        have := ldC_ok g3 hv
        cases k with
        | sc =>
          obtain ⟨x, e1, e2⟩ := this
          refine ⟨x, v, plain _ _ _ (run_loadVar_sc hk _ _ ?_), e2, h⟩
          simp only [World.cell?, g2]
          simpa using e1
        | ag m ws =>
          obtain ⟨e1, e2⟩ := this
          simp only [Array.length_toList] at e1
          refine ⟨_, v, plain _ _ _ (run_loadVar_ag hk _ _ arr _ _ g2 (by omega)), ?_, h⟩
          have : arr.extract (0 + off) (0 + off + m) = ((arr.toList.drop off).take m).toArray := by
            apply Array.ext'
            simp [Nat.add_sub_cancel_left]
          rw [this]; exact e2
      · exact h.elim
    · exact h.elim
  · rename_i n off i w' fo
    obtain ⟨b, base, sz, h1, rfl⟩ := ep_inv ha
    split at h
    · rename_i es w2 e2 hb
      split at h
      · rename_i hw hoff
        have hw := Nat.eq_of_beq_eq_true hw
        have hoff := Nat.eq_of_beq_eq_true hoff
        subst hw hoff
        cases h with
        | mk v x hv hx h =>
          have ho := hdh.obj n _ (hget_some hb rfl)
          rcases ho with ⟨g1, _⟩ | ⟨b', base', arr, post, pre, g1, g2, g3, g4, g5⟩
          · rw [g1] at h1; cases h1
          · rw [g1] at h1
            simp only [Option.some.injEq, Blk.at.injEq] at h1
            obtain ⟨rfl, rfl, rfl⟩ := h1
            exact ⟨x, _, part_ok hk g2 g3 (by simpa using g4) g5 hv hx, .raw _, h⟩
      · exact h.elim
    · rename_i cs e hc
      split at h
      · rename_i m v r hdr
        split at h
        · rename_i e1 e2 e3
          have e1 := Nat.eq_of_beq_eq_true e1
          have e3 := Nat.eq_of_beq_eq_true e3
          subst e1 e3
          cases h with
          | mk hlt h =>
          have h := h.go
          have ho := hdh.obj n _ (hget_some hc rfl)
          obtain ⟨b', arr, g1, g2, g3⟩ := ho
          rw [g1] at h1
          simp only [Option.some.injEq, Blk.at.injEq] at h1
          obtain ⟨rfl, rfl, rfl⟩ := h1
          have h2 := DC.drop g3 hdr
          have hm : m ≠ 1 := by intro e; subst e; simp at e2
          have h3 := h2.1
          generalize hq : arr.toList.drop off = q at h3
          cases h3 with
          | one => exact absurd rfl hm
          | many p q' c d e' =>
            rename_i av l'
            cases q'
            refine ⟨_, _, plain _ _ _ (run_loadVar_sc hk _ _ ?_), .raw _, h⟩
            simp only [World.cell?, g2]
            have h4 : arr.toList[off + i]? = av[i]? := by
              have : (arr.toList.drop off)[i]? = av.toList[i]? := by
                rw [hq, List.getElem?_append_left (by simp; omega)]
              simpa using this
            have hlt2 : i < av.size := by omega
            simp [cellAt, Array.getD, hlt2]
            simpa [hlt2] using h4
        · exact h.elim
      · exact h.elim
    · exact h.elim
  · rename_i v i w' fo
    obtain ⟨k', o', len, cap, hv, rfl⟩ := rep_inv ha
    subst hv
    cases h with
    | mk es x y h1 he hp hK =>
      rcases h1 with ⟨kk, oo, cap', arr, et, fr, pre, post, e1, e2, e3, e4, e5, e6⟩ | ⟨rfl, qq, e1⟩
      · cases e1
        exact ⟨y, _, part_ok hk (hdh.ro _ _ e3) e4 e5 e6 he hp, .raw _, hK⟩
      · simp at he
  · exact h.elim

end Go.SX

/- The symbolic machine: how a symbolic heap follows the real one. -/
namespace Go.SX
open Go

variable {P : Program} {T : List Blk} {tm : Tm} {a : Act} {o : Oper} {w w' : World} {R : RO} {H : List SObj}

theorem hset_eq (H : List SObj) (n : Nat) (x : SObj) : hset H n x = H.set n x := by
  induction H generalizing n with
  | nil => rfl
  | cons y r ih => cases n <;> simp [hset, ih]
theorem hpush_eq (H : List SObj) (x : SObj) : hpush H x = H ++ [x] := by
  induction H with
  | nil => rfl
  | cons y r ih => simp [hpush, ih]
theorem hlen_eq (H : List SObj) : hlen H = H.length := by
  induction H with
  | nil => rfl
  | cons y r ih => simp [hlen, ih]

/-- how one step changes the world -/
structure WS (w w' : World) (T L : List Blk) : Prop where
  os : w'.os = w.os
  tape : w'.tape = w.tape
  output : w'.output = w.output
  size : w.heap.size ≤ w'.heap.size
  block : ∀ k, k < w.heap.size → ¬ OwnB T k → w'.heap[k]? = w.heap[k]?
  own : ∀ k, OwnB (T ++ L) k → OwnB T k ∨ w.heap.size ≤ k

theorem WS.refl (w : World) (T : List Blk) : WS w w T [] := ⟨rfl, rfl, rfl, Nat.le_refl _, fun _ _ _ => rfl, fun k h => .inl (by simpa using h)⟩

theorem OwnB.mono {T L : List Blk} {k : Nat} (h : OwnB T k) : OwnB (T ++ L) k := by
  obtain ⟨n, bs, sz, h⟩ := h; exact ⟨n, bs, sz, ext_get h⟩

theorem WS.trans {w1 w2 w3 : World} {T L M : List Blk} (h : WS w1 w2 T L) (g : WS w2 w3 (T ++ L) M) : WS w1 w3 T (L ++ M) := by
  refine ⟨g.os.trans h.os, g.tape.trans h.tape, g.output.trans h.output, Nat.le_trans h.size g.size, fun k hk hn => ?_, fun k hk => ?_⟩
  · rw [g.block k (Nat.lt_of_lt_of_le hk h.size) (fun ho => ?_)]
    · exact h.block k hk hn
    · rcases h.own k ho with h1 | h1
      · exact hn h1
      · omega
  · rw [← List.append_assoc] at hk
    rcases g.own k hk with h1 | h1
    · exact h.own k h1
    · have := h.size; exact .inr (by omega)

theorem Rel.step {c : Cx} {L : List Blk} (h : Rel c w T) (g : WS w w' T L) : Rel c w' (T ++ L) := by
  refine ⟨g.os.trans h.os, g.tape.trans h.tape, g.output.trans h.output, Nat.le_trans h.size g.size, fun k hk hn => ?_, ?_, fun k hk => ?_⟩
  · rw [g.block k (Nat.lt_of_lt_of_le hk h.size) (fun ho => ?_)]
    · exact h.block k hk hn
    · rcases h.own k ho with h1 | h1
      · exact hn h1
      · omega
  · obtain ⟨M, hM⟩ := h.pre; exact ⟨M ++ L, by rw [hM, List.append_assoc]⟩
  · rcases g.own k hk with h1 | h1
    · exact h.own k h1
    · have := h.size; exact .inr (by omega)

theorem DO.ext {n : Nat} {x : SObj} (L : List Blk) (h : DO P w T n x) : DO P w (T ++ L) n x := by
  cases x with
  | dead => trivial
  | cells cs e => obtain ⟨b, arr, h1, h2, h3⟩ := h; exact ⟨b, arr, ext_get h1, h2, h3.ext L⟩
  | buf es wd e =>
    rcases h with ⟨h1, h2⟩ | ⟨b, base, arr, post, pre, h1, h2⟩
    · exact .inl ⟨ext_get h1, h2⟩
    · exact .inr ⟨b, base, arr, post, pre, ext_get h1, h2⟩
  | mapo es clk => obtain ⟨b, sz, h1, h2⟩ := h; exact ⟨b, sz, ext_get h1, h2⟩
  | loop l =>
    obtain ⟨b, sz, r, h1, h2, h3⟩ := h
    obtain ⟨bs, sz', hd⟩ := h3.dfr
    exact ⟨b, sz, r, ext_get h1, h2, ⟨h3.st, h3.pend, h3.nt, fun t => (h3.tm t).ext L, h3.ps, h3.psl, h3.asg, h3.body, ⟨bs, sz', ext_get hd⟩⟩⟩
  | dfr => obtain ⟨b, sz, h1, h2⟩ := h; exact ⟨b, sz, ext_get h1, h2⟩

theorem DO.congr {n : Nat} {x : SObj} (h : DO P w T n x) (hb : ∀ b base sz, T[n]? = some (.at b base sz) → w'.heap[b]? = w.heap[b]?) : DO P w' T n x := by
  cases x with
  | dead => trivial
  | cells cs e => obtain ⟨b, arr, h1, h2, h3⟩ := h; exact ⟨b, arr, h1, by rw [hb _ _ _ h1]; exact h2, h3⟩
  | buf es wd e =>
    rcases h with ⟨h1, h2⟩ | ⟨b, base, arr, post, pre, h1, h2, h3⟩
    · exact .inl ⟨h1, h2⟩
    · exact .inr ⟨b, base, arr, post, pre, h1, by rw [hb _ _ _ h1]; exact h2, h3⟩
  | mapo es clk => obtain ⟨b, sz, h1, h2⟩ := h; exact ⟨b, sz, h1, by rw [hb _ _ _ h1]; exact h2⟩
  | loop l => obtain ⟨b, sz, r, h1, h2, h3⟩ := h; exact ⟨b, sz, r, h1, by rw [hb _ _ _ h1]; exact h2, h3⟩
  | dfr => obtain ⟨b, sz, h1, h2⟩ := h; exact ⟨b, sz, h1, by rw [hb _ _ _ h1]; exact h2⟩

theorem live_set {H : List SObj} {n m : Nat} {x : SObj} (hn : Live H n) (h : Live (H.set n x) m) : Live H m := by
  obtain ⟨y, h1, h2⟩ := h
  by_cases e : n = m
  · subst e; exact hn
  · rw [List.getElem?_set_ne e] at h1; exact ⟨y, h1, h2⟩

/-- one named block is written -/
theorem DH.upd (h : DH P w R T H) {n b base sz : Nat} {x : SObj} (hn : T[n]? = some (.at b base sz)) (hl : Live H n)
    (hs : w'.heap.size = w.heap.size) (hb : ∀ k, k ≠ b → w'.heap[k]? = w.heap[k]?) (hx : DO P w' T n x) : DH P w' R T (hset H n x) := by
  rw [hset_eq]
  refine ⟨by simp [h.len], fun m y hm => ?_, fun m k b' bs sz' bs' sz'' h1 h2 l1 l2 => h.dis m k b' bs sz' bs' sz'' h1 h2 (live_set hl l1) (live_set hl l2), fun m b' bs sz' h1 => by rw [hs]; exact h.lt m b' bs sz' h1,
    fun k y hk => ?_, fun k y m bs sz' hk hm lm => h.rod k y m bs sz' hk hm (live_set hl lm)⟩
  · by_cases e : n = m
    · subst e
      have : n < H.length := by obtain ⟨y, h1, _⟩ := hl; exact (List.getElem?_eq_some_iff.1 h1).1
      rw [List.getElem?_set_self this] at hm
      simp only [Option.some.injEq] at hm
      subst hm; exact hx
    · rw [List.getElem?_set_ne e] at hm
      by_cases hy : y.live = true
      · refine (h.obj m y hm).congr fun b' bs' sz' hm' => hb _ (fun e' => e ?_)
        subst e'
        exact h.dis n m _ _ _ _ _ hn hm' hl ⟨y, hm, hy⟩
      · cases y <;> first | trivial | exact absurd rfl hy
  · rw [hb k (fun e => by subst e; exact h.rod _ _ _ _ _ hk hn hl)]
    exact h.ro k y hk

theorem WS.upd {b : Nat} (hn : OwnB T b) (ho : w'.os = w.os) (ht : w'.tape = w.tape) (hp : w'.output = w.output)
    (hs : w'.heap.size = w.heap.size) (hb : ∀ k, k ≠ b → w'.heap[k]? = w.heap[k]?) : WS w w' T [] :=
  ⟨ho, ht, hp, Nat.le_of_eq hs.symm, fun k _ hk => hb k (fun e => by subst e; exact hk hn), fun k h => .inl (by simpa using h)⟩

/-- a new block with a name -/
theorem DH.push (h : DH P w R T H) {x : SObj} {sz : Nat} (hs : w.heap.size < w'.heap.size) (hb : ∀ k, k < w.heap.size → w'.heap[k]? = w.heap[k]?)
    (hx : DO P w' (T ++ [.at w.heap.size 0 sz]) H.length x) : DH P w' R (T ++ [.at w.heap.size 0 sz]) (hpush H x) := by
  rw [hpush_eq]
  have hTn : ∀ m b bs sz', (T ++ [Blk.at w.heap.size 0 sz])[m]? = some (Blk.at b bs sz') → (m < T.length ∧ T[m]? = some (Blk.at b bs sz')) ∨ (m = T.length ∧ b = w.heap.size) := by
    intro m b bs sz' hm
    by_cases hlt : m < T.length
    · rw [List.getElem?_append_left hlt] at hm; exact .inl ⟨hlt, hm⟩
    · rw [List.getElem?_append_right (by omega)] at hm
      have : m - T.length = 0 := by
        rcases Nat.eq_zero_or_pos (m - T.length) with h0 | h0
        · exact h0
        · rw [List.getElem?_eq_none (by simp; omega)] at hm; cases hm
      rw [this] at hm
      simp at hm
      exact .inr ⟨by omega, hm.1.symm⟩
  have hlive : ∀ m, m < H.length → Live (H ++ [x]) m → Live H m := by
    rintro m hm ⟨y, h1, h2⟩
    rw [List.getElem?_append_left hm] at h1
    exact ⟨y, h1, h2⟩
  have hlen := h.len
  refine ⟨by simp [h.len], fun m y hm => ?_, fun m k b bs sz' bs' sz'' h1 h2 l1 l2 => ?_, fun m b bs sz' h1 => ?_, fun k y hk => ?_, fun k y m bs sz' hk hm lm => ?_⟩
  · by_cases hlt : m < H.length
    · rw [List.getElem?_append_left hlt] at hm
      refine ((h.obj m y hm).congr fun b bs sz' hT => hb b (h.lt m b bs sz' hT)).ext _
    · rw [List.getElem?_append_right (by omega)] at hm
      have : m - H.length = 0 := by
        rcases Nat.eq_zero_or_pos (m - H.length) with h0 | h0
        · exact h0
        · rw [List.getElem?_eq_none (by simp; omega)] at hm; cases hm
      rw [this] at hm
      simp at hm
      subst hm
      have : m = H.length := by omega
      subst this
      exact hx
  · rcases hTn _ _ _ _ h1 with ⟨a1, a2⟩ | ⟨a1, a2⟩ <;> rcases hTn _ _ _ _ h2 with ⟨b1, b2⟩ | ⟨b1, b2⟩
    · exact h.dis m k _ _ _ _ _ a2 b2 (hlive m (by omega) l1) (hlive k (by omega) l2)
    · have := h.lt _ _ _ _ a2; omega
    · have := h.lt _ _ _ _ b2; omega
    · omega
  · rcases hTn _ _ _ _ h1 with ⟨a1, a2⟩ | ⟨a1, a2⟩
    · have := h.lt _ _ _ _ a2; omega
    · omega
  · have h1 := h.ro k y hk
    have : k < w.heap.size := (Array.getElem?_eq_some_iff.1 h1).1
    rw [hb k this]; exact h1
  · rcases hTn _ _ _ _ hm with ⟨a1, a2⟩ | ⟨a1, a2⟩
    · exact h.rod k y m bs sz' hk a2 (hlive m (by omega) lm)
    · have h1 := h.ro k y hk
      have : k < w.heap.size := (Array.getElem?_eq_some_iff.1 h1).1
      omega

theorem WS.push {sz : Nat} (ho : w'.os = w.os) (ht : w'.tape = w.tape) (hp : w'.output = w.output)
    (hs : w.heap.size ≤ w'.heap.size) (hb : ∀ k, k < w.heap.size → w'.heap[k]? = w.heap[k]?) : WS w w' T [.at w.heap.size 0 sz] :=
  ⟨ho, ht, hp, hs, fun k hk _ => hb k hk, fun k ⟨m, bs, sz', hm⟩ => by
    by_cases hlt : m < T.length
    · rw [List.getElem?_append_left hlt] at hm; exact .inl ⟨m, bs, sz', hm⟩
    · rw [List.getElem?_append_right (by omega)] at hm
      rcases Nat.eq_zero_or_pos (m - T.length) with h0 | h0
      · rw [h0] at hm; simp at hm; exact .inr (by omega)
      · rw [List.getElem?_eq_none (by simp; omega)] at hm; cases hm⟩

/-- the world alone has drawn, or laid blocks that nobody names -/
theorem DH.same (h : DH P w R T H) (hs : w.heap.size ≤ w'.heap.size) (hb : ∀ k, k < w.heap.size → w'.heap[k]? = w.heap[k]?) : DH P w' R T H :=
  ⟨h.len, fun m y hm => (h.obj m y hm).congr fun b bs sz' hT => hb b (h.lt m b bs sz' hT), h.dis, fun m b bs sz' h1 => Nat.lt_of_lt_of_le (h.lt m b bs sz' h1) hs,
    fun k y hk => by have h1 := h.ro k y hk; rw [hb k (Array.getElem?_eq_some_iff.1 h1).1]; exact h1, h.rod⟩

/-- a name given up -/
theorem DH.kill (h : DH P w R T H) (n : Nat) : DH P w R T (hset H n .dead) := by
  rw [hset_eq]
  have hl : ∀ m, Live (H.set n .dead) m → Live H m := by
    rintro m ⟨y, h1, h2⟩
    by_cases e : n = m
    · subst e
      have hlt : n < (H.set n .dead).length := (List.getElem?_eq_some_iff.1 h1).1
      simp at hlt
      rw [List.getElem?_set_self hlt] at h1
      simp at h1; subst h1; cases h2
    · rw [List.getElem?_set_ne e] at h1; exact ⟨y, h1, h2⟩
  refine ⟨by simp [h.len], fun m y hm => ?_, fun m k b' bs sz' bs' sz'' h1 h2 l1 l2 => h.dis m k b' bs sz' bs' sz'' h1 h2 (hl _ l1) (hl _ l2), h.lt, h.ro, fun k y m bs sz' hk hm lm => h.rod k y m bs sz' hk hm (hl _ lm)⟩
  by_cases e : n = m
  · subst e
    have hlt : n < (H.set n .dead).length := (List.getElem?_eq_some_iff.1 hm).1
    simp at hlt
    rw [List.getElem?_set_self hlt] at hm
    simp at hm; subst hm; trivial
  · rw [List.getElem?_set_ne e] at hm; exact h.obj m y hm

end Go.SX

/- The symbolic machine: values as chunks; append and copy as the machine runs them. -/
namespace Go.SX
open Go

variable {P : Program} {T : List Blk} {tm : Tm} {a : Act} {o : Oper} {w w' : World} {R : RO} {H : List SObj}

theorem mkSC_ok : ∀ {ws : List Nat} {l : List Value} {z : SC}, mkSC ws l = some z → DC T z l
  | [], [], z, h => by simp [mkSC] at h; subst h; exact .nil
  | [], _ :: _, z, h => by simp [mkSC] at h
  | 0 :: ws, l, z, h => by
    unfold mkSC at h
    split at h
    · rename_i h1; cases h1
    · rename_i h1; cases h1
    · rename_i h1; cases h1
    · rename_i L _ _ _ _ h1 _
      cases h1
      split at h
      · cases hm : mkSC ws (L.drop 0) with
        | none => rw [hm] at h; simp at h
        | some z' =>
          rw [hm] at h
          simp at h
          subst h
          have := mkSC_ok hm
          exact DC.many (by decide) (.raw _) rfl (by simp) (by simpa using this)
      · cases h
  | 1 :: ws, [], z, h => by
    unfold mkSC at h
    simp at h
  | 1 :: ws, x :: l, z, h => by
    unfold mkSC at h
    simp only at h
    split at h
    · rename_i hs
      cases hm : mkSC ws l with
      | none => rw [hm] at h; simp at h
      | some z' =>
        rw [hm] at h
        simp at h
        subst h
        exact .one (.raw _) hs (mkSC_ok hm)
    · cases h
  | (n + 2) :: ws, l, z, h => by
    unfold mkSC at h
    split at h
    · rename_i h1; cases h1
    · rename_i h1; cases h1
    · rename_i h1; cases h1
    · rename_i L _ _ _ _ h1 _
      cases h1
      split at h
      · rename_i hc
        simp only [Bool.and_eq_true, decide_eq_true_eq, bne_iff_ne, List.all_eq_true] at hc
        cases hm : mkSC ws (L.drop (n + 2)) with
        | none => rw [hm] at h; simp at h
        | some z' =>
          rw [hm] at h
          simp at h
          subst h
          have h2 : DC T z' (L.drop (n + 2)) := mkSC_ok hm
          have h3 := DC.many (T := T) (k := n + 2) (s := .raw (.agg (L.take (n + 2)).toArray)) (arr := (L.take (n + 2)).toArray) (by omega) (.raw _) (by simp; omega) (by simpa using hc.2) h2
          simpa using h3
      · cases h

theorem ofRaw_ok (arr : Array Value) (hs : ∀ x ∈ arr.toList, scal x = true) : ∀ (ws : List Nat) (o : Nat), ws.all (· != 0) = true → o + ws.sum ≤ arr.size → DC T (ofRaw ws (.agg arr) o) ((arr.toList.drop o).take ws.sum)
  | [], o, _, _ => by simpa [ofRaw] using DC.nil
  | 0 :: ws, o, h, _ => by simp at h
  | 1 :: ws, o, h, hl => by
    simp only [List.sum_cons] at hl ⊢
    have ih := ofRaw_ok arr hs ws (o + 1) (by simpa using h) (by omega)
    have hlt : o < arr.size := by omega
    have e1 : (arr.toList.drop o).take (1 + ws.sum) = arr[o] :: (arr.toList.drop (o + 1)).take ws.sum := by
      rw [List.drop_eq_getElem_cons (by simpa using hlt), Nat.add_comm 1, List.take_succ_cons]; simp
    rw [e1]
    simp only [ofRaw]
    refine .one ?_ (hs _ (by simp)) ih
    have : cellAt (.agg arr) o = arr[o] := by simp [cellAt, Array.getD, hlt]
    rw [this]; exact .raw _
  | (n + 2) :: ws, o, h, hl => by
    simp only [List.sum_cons] at hl ⊢
    have ih := ofRaw_ok arr hs ws (o + (n + 2)) (by simpa using h) (by omega)
    have e1 : (arr.toList.drop o).take (n + 2 + ws.sum) = (arr.extract o (o + (n + 2))).toList ++ (arr.toList.drop (o + (n + 2))).take ws.sum := by
      rw [List.take_add]
      congr 1
      · simp [Nat.add_sub_cancel_left]
      · rw [List.drop_drop]
    rw [e1]
    simp only [ofRaw]
    refine .many (by omega) (.raw _) (by simp; omega) (fun x hx => hs x ?_) ih
    simp only [Array.toList_extract, List.extract] at hx
    exact List.mem_of_mem_drop (List.mem_of_mem_take hx)

theorem chunks_ok {n : Nat} {ws : List Nat} {x : SV} {vx : Value} {K : SC → Prop} (hx : DV T x vx) (h : chunks n ws x K) :
    ∃ cs arr, vx = .agg arr ∧ arr.size = n ∧ DC T cs arr.toList ∧ K cs := by
  unfold chunks at h
  split at h
  · rename_i cs
    split at h
    · rename_i hw
      obtain ⟨arr, rfl, hd⟩ := agg_inv hx
      exact ⟨cs, arr, rfl, by have := hd.length; rw [Nat.eq_of_beq_eq_true hw] at this; simpa using this, hd, h⟩
    · exact h.elim
  · rename_i v
    have := raw_inv hx
    subst this
    split at h
    · cases h with
      | mk hc h =>
        obtain ⟨⟨arr, rfl, h1, h2⟩, h3⟩ := hc
        refine ⟨_, arr, rfl, h1, ?_, h⟩
        simpa using DC.many h3 (.raw _) h1 h2 .nil
    · cases h with
      | mk hc h =>
        obtain ⟨⟨arr, rfl, h1, h2⟩, h3, h4⟩ := hc
        refine ⟨_, arr, rfl, h1, ?_, h⟩
        have := ofRaw_ok (T := T) arr h2 ws 0 h4 (by omega)
        rw [List.drop_zero, h3, ← h1, ← Array.length_toList, List.take_length] at this
        exact this
  · exact h.elim

theorem svScal_ok {x : SV} {vx : Value} (hx : DV T x vx) (h : svScal x = true) : scal vx = true := by
  cases hx <;> first | rfl | exact h | cases h

def KOk (k : AK) (v : Value) : Prop :=
  match k with
  | .sc => scal v = true
  | .ag n _ => ∃ arr, v = .agg arr ∧ arr.size = n ∧ ∀ x ∈ arr.toList, scal x = true

theorem KOk.cells {k : AK} {v : Value} (h : KOk k v) : ∀ x ∈ vcells v, scal x = true := by
  cases k with
  | sc => rw [vcells_scal h]; intro x hx; simp at hx; subst hx; exact h
  | ag n ws => obtain ⟨arr, rfl, _, h1⟩ := h; exact h1

theorem stC_ok {k : AK} {s : SC} {off : Nat} {x : SV} {vx : Value} {l : List Value} {K : SC → Prop} (hd : DC T s l) (hx : DV T x vx) (h : stC k s off x K) :
    ∃ s', K s' ∧ DC T s' (l.take off ++ vcells vx ++ l.drop (off + (vcells vx).length)) ∧ off + (vcells vx).length ≤ l.length ∧ KOk k vx := by
  unfold stC at h
  split at h
  · rename_i p r hp hr
    have hp := DC.take hd hp
    have hr := DC.drop hd hr
    split at h
    · -- one cell
      split at h
      · rename_i kk y r'
        split at h
        · rename_i hk hs
          have hk := Nat.eq_of_beq_eq_true hk
          subst hk
          have hsc := svScal_ok hx hs
          have h3 := hr.1
          generalize hq : l.drop off = q at h3
          cases h3 with
          | one a b c =>
            rename_i y' l'
            refine ⟨_, h, ?_, ?_, hsc⟩
            · rw [vcells_scal hsc]
              have e1 : l.drop (off + 1) = l' := by rw [← List.drop_drop, hq]; rfl
              simp only [List.length_singleton, e1, List.append_assoc, List.singleton_append]
              exact hp.1.app (.one hx hsc c)
            · rw [vcells_scal hsc]
              have : (l.drop off).length = l.length - off := by simp
              rw [hq] at this
              simp at this ⊢
              have := hr.2
              omega
          | many a => exact absurd rfl a
        · exact h.elim
      · exact h.elim
    · rename_i n ws
      split at h
      · rename_i r' hr'
        have hr2 := DC.drop hr.1 hr'
        obtain ⟨cs, arr, rfl, h1, h2, h3⟩ := chunks_ok hx h
        have hl : (vcells (.agg arr)).length = n := by simpa [vcells, Value.cells] using h1
        refine ⟨_, h3, ?_, ?_, ⟨arr, rfl, h1, h2.scal⟩⟩
        · rw [hl, List.append_assoc]
          have := hr2.1
          rw [List.drop_drop] at this
          exact hp.1.app (h2.app this)
        · rw [hl]
          have e1 := hr2.2
          have e2 := hr.2
          simp at e1
          omega
      · exact h.elim
  · exact h.elim

theorem scal_one {v : Value} (h : scal v = true) : v.oneCell' = true := by cases v <;> first | rfl | cases h

theorem KOk.size {k : AK} {v : Value} {t : TypeId} (hk : trAK P t = some k) (h : KOk k v) : ∃ i, P.info? t = some i ∧ v.cells.size = i.size := by
  cases k with
  | sc =>
    obtain ⟨i, d, h1, h2, h3, h4⟩ := trAK_sc hk
    refine ⟨i, h1, ?_⟩
    have := congrArg List.length (vcells_scal h)
    simpa [vcells, h4] using this
  | ag n ws =>
    obtain ⟨i, d, h1, h2, h3, h4⟩ := trAK_ag hk
    obtain ⟨arr, rfl, h5, _⟩ := h
    exact ⟨i, h1, by simp [Value.cells, h4, h5]⟩

/-- a store into a row -/
theorem run_storeAt {t : TypeId} {k : AK} (hk : trAK P t = some k) {v : Value} (hv : KOk k v) {b off : Nat} {arr : Array Value} {e : TypeId} (hb : w.heap[b]? = some (.cells arr e (0, 0)))
    (hle : off + (vcells v).length ≤ arr.size) :
    (Instr.storeAt t (.pointer (some ⟨b, off, none⟩)) v).run P w = .ok () (w.setRow b (arr.toList.take off ++ vcells v ++ arr.toList.drop (off + (vcells v).length)).toArray) := by
  obtain ⟨i, hi, hs⟩ := hv.size hk
  have := run_storeCells_at P b off e (vcells v) 0 arr w hb (by simpa using hle) (fun x hx => scal_one (hv.cells x hx))
  simp only [Nat.add_zero] at this
  simp [Instr.storeAt, Instr.sureAddr, storeVar, Sem.run_bind, sizeOf, typeInfo, hi, hs]
  simpa [vcells] using this

theorem setRow_size (w : World) (g : Nat) (cs : Array Value) : (w.setRow g cs).heap.size = w.heap.size := by simp [World.setRow]
theorem setRow_ne (w : World) (g k : Nat) (cs : Array Value) (h : k ≠ g) : (w.setRow g cs).heap[k]? = w.heap[k]? := by
  simp only [World.setRow, Array.getElem?_modify]
  rw [if_neg (Ne.symm h)]

end Go.SX

/- The symbolic machine: append, as the machine runs it. -/
namespace Go.SX
open Go

variable {P : Program} {T : List Blk} {tm : Tm} {a : Act} {o : Oper} {w w' : World} {R : RO} {H : List SObj}

def SubRO (R R' : RO) : Prop := ∀ k o, R k = some o → R' k = some o
theorem SubRO.refl (R : RO) : SubRO R R := fun _ _ h => h
theorem SubRO.trans {R R' R'' : RO} (h : SubRO R R') (g : SubRO R' R'') : SubRO R R'' := fun k o hk => g k o (h k o hk)
theorem ROSl.mono {R R' : RO} {v : Value} {es : List Value} {wd : Nat} (h : ROSl R v es wd) (g : SubRO R R') : ROSl R' v es wd := by
  rcases h with ⟨k, o, cap, arr, e, fr, pre, post, h1, h2, h3, h4⟩ | h
  · exact .inl ⟨k, o, cap, arr, e, fr, pre, post, h1, h2, g _ _ h3, h4⟩
  · exact .inr h

/-- what is appended or copied: so many elements, these cells; in whatever world that keeps the old blocks -/
structure Src (P : Program) (w : World) (size : Nat) (x : Value) (m : Nat) (news : List Value) : Prop where
  len : ∀ w2, (Builtin.lenOf x).run P w2 = .ok m w2
  first : ∀ w2 k, (∀ j, j < w.heap.size → w2.heap[j]? = w.heap[j]?) → k ≤ m → (Builtin.firstCells size k x).run P w2 = .ok (news.take (k * size)).toArray w2
  hl : news.length = m * size
  sc : ∀ v ∈ news, scal v = true

theorem src_block {b off len cap size : Nat} {arr : Array Value} {e : TypeId} {fr : Nat × Nat} {pre news post : List Value} (hb : w.heap[b]? = some (.cells arr e fr))
    (h1 : arr.toList = pre ++ (news ++ post)) (h2 : pre.length = off) (h3 : news.length = len * size) (h4 : ∀ v ∈ news, scal v = true) :
    Src P w size (.slice (some ⟨b, off, none⟩) len cap) len news := by
  refine ⟨fun w2 => by simp [Builtin.lenOf], fun w2 k hk hkm => ?_, h3, h4⟩
  have hlt : b < w.heap.size := (Array.getElem?_eq_some_iff.1 hb).1
  refine run_firstCells_some (P := P) w2 size k _ len cap (news.take (k * size)) ?_ ?_
  · rw [List.length_take, h3]; exact Nat.min_eq_left (Nat.mul_le_mul_right _ hkm)
  · intro j v hj
    rw [Addr.add_mid]
    simp only [World.cell?]
    rw [hk b hlt, hb]
    rw [List.getElem?_take] at hj
    split at hj
    · have hj2 : j < news.length := (List.getElem?_eq_some_iff.1 hj).1
      have := mid_get (l := pre) (m := news) (r := post) (j := j) h2 hj2
      rw [← h1, hj] at this
      simpa using this
    · cases hj

theorem src_nil (size : Nat) : Src P w size (.slice none 0 0) 0 [] :=
  ⟨fun w2 => by simp [Builtin.lenOf], fun w2 k _ hk => by simp [Builtin.firstCells], by simp, by simp⟩

theorem src_str (s : ByteArray) : Src P w 1 (.string s) s.size (s.data.toList.map fun b => Value.int .u8 b.toNat) := by
  refine ⟨fun w2 => by simp [Builtin.lenOf], fun w2 k _ hk => ?_, by simp, by simp; intro b hb; rfl⟩
  simp only [Builtin.firstCells, Sem.run_pure]
  congr 1
  apply Array.ext'
  rw [Nat.mul_one]
  simp [ByteArray.data_extract]

/-- append where there is room -/
theorem run_app_fits (t t' ty e : TypeId) (i : TypeInfo) (ht : P.underlying t = some (.slice e)) (hi : P.info? e = some i) {d' : TypeDesc} (ht' : P.underlying t' = some d') (hd' : (∃ e', d' = .slice e') ∨ d' = .string)
    {x : Value} {m : Nat} {news : List Value} (hx : Src P w i.size x m news)
    (g off sLen sCap : Nat) (cur : Array Value) (e2 : TypeId) (hg : w.heap[g]? = some (.cells cur e2 (0, 0))) (hroom : sLen + m ≤ sCap) (hfit : off + sLen * i.size + news.length ≤ cur.size) :
    (Builtin.append_ #[t, t'] ty #[.slice (some ⟨g, off, none⟩) sLen sCap, x]).run P w =
      .ok (.slice (some ⟨g, off, none⟩) (sLen + m) sCap) (w.setRow g (cur.toList.take (off + sLen * i.size) ++ news ++ cur.toList.drop (off + sLen * i.size + news.length)).toArray) := by
  have hf := hx.first w m (fun _ _ => rfl) (Nat.le_refl _)
  rw [← hx.hl, List.take_length] at hf
  have hst := run_storeCells_at P g (off + sLen * i.size) e2 news 0 cur w hg (by simpa using hfit) (fun v hv => scal_one (hx.sc v hv))
  simp only [Nat.add_zero] at hst
  rcases hd' with ⟨e', rfl⟩ | rfl
  all_goals simp [Builtin.append_, run_underlying ht, run_underlying ht', sizeOf, typeInfo, hi, hx.len, hroom, hf, Addr.add_mid, hst]

/-- append where there is no room -/
theorem run_app_grow (t t' ty e : TypeId) (i : TypeInfo) (z : Value) (ht : P.underlying t = some (.slice e)) (hi : P.info? e = some i) (hz : i.zero = some z) {d' : TypeDesc} (ht' : P.underlying t' = some d') (hd' : (∃ e', d' = .slice e') ∨ d' = .string)
    {x : Value} {m : Nat} {news : List Value} (hx : Src P w i.size x m news)
    {s : Value} {sLen sCap : Nat} {olds : List Value} {base : Option Addr} (hs : s = .slice base sLen sCap) (hso : Src P w i.size s sLen olds)
    (hg : sCap < sLen + m) (h63 : sLen + m ≤ 9223372036854775807) (hb : (sLen + m) * i.bytes ≤ 140737488355328) :
    (Builtin.append_ #[t, t'] ty #[s, x]).run P w =
      .ok (.slice (some ⟨w.heap.size, 0, none⟩) (sLen + m) (grownCap w (sLen + m) sCap e))
        (w.drew.alloc (.cells (olds.toArray ++ news.toArray ++ Builtin.zeroCells z.cells (grownCap w (sLen + m) sCap e - (sLen + m))) e)) := by
  subst hs
  have hfit := growslice_fits hg hb
  have hn' : ¬ (sLen + m ≤ sCap) := by omega
  have h63' : ¬ (9223372036854775807 < ((sLen : Int) + (m : Int))) := by omega
  have h48' : ¬ (281474976710656 < Builtin.nextslicecap (sLen + m) sCap * i.bytes) := by omega
  have hf := hx.first w.drew m (fun _ _ => rfl) (Nat.le_refl _)
  rw [← hx.hl, List.take_length] at hf
  have hfo := hso.first w.drew sLen (fun _ _ => rfl) (Nat.le_refl _)
  rw [← hso.hl, List.take_length] at hfo
  rcases hd' with ⟨e', rfl⟩ | rfl
  all_goals
    simp [Builtin.append_, run_underlying ht, run_underlying ht', sizeOf, typeInfo, zeroValue, hi, hz, hx.len, hn', h63', h48', Question.forced, hf, hfo, newRow, grownCap]
    congr 2
    apply Array.ext'
    simp

end Go.SX

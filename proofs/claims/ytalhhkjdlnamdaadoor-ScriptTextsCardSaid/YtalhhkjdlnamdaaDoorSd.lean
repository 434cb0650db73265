/-
  The symbolic machine's effects on memory.
-/
import Derived.Test.YtalhhkjdlnamdaaDoorSc
import Derived.Lib.ConvBytes
import Derived.Great.BuildSlice
/- The symbolic machine: operations that write or make memory. -/
namespace Go.SX
open Go

variable {P : Program} {T : List Blk} {tm : Tm} {a : Act} {o : Oper} {w w' : World} {R : RO} {H : List SObj}

def vcBsl (k : AK) : List SV → (SC → Prop) → Prop
  | [], K => K .nil
  | x :: r, K => match k with
    | .sc => match svScal x with
      | true => vcBsl k r fun cs => K (.cons 1 x cs)
      | false => False
    | .ag n ws => chunks n ws x fun c => vcBsl k r fun cs => K (c.app cs)

def ksz : AK → Nat
  | .sc => 1
  | .ag n _ => n

def inOrder : List (Nat × Operand) → Nat → Bool
  | [], _ => true
  | (i, _) :: r, n => match Nat.beq i n with | true => inOrder r (n + 1) | false => false

def psnd : List (Nat × Operand) → List Operand
  | [] => []
  | (_, x) :: r => x :: psnd r

def plen : List (Nat × Operand) → Nat
  | [] => 0
  | _ :: r => plen r + 1

def vcBld (tm : Tm) : List (Nat × AK × Operand) → SC → (SC → Prop) → Prop
  | [], z, K => K z
  | (off, k, x) :: r, z, K => stC k z off (ev tm x) fun z' => vcBld tm r z' K

/-- one-cell chunks, all known -/
def rawCells : SC → Option (List Value)
  | .nil => some []
  | .cons k v r => match k, v with
    | 1, .raw v => match rawCells r with
      | some l => some (v :: l)
      | none => none
    | _, _ => none

def bufEl (k : AK) (x : SV) : Option Value :=
  match k with
  | .sc => match x with
    | .raw v => some v
    | _ => none
  | .ag n _ => match Nat.beq n 1 with
    | true => none
    | false => match x with
      | .raw v => some v
      | .agg cs => match rawCells cs with
        | some l => some (.agg ⟨l⟩)
        | none => none
      | _ => none

def bufEls (k : AK) : List SV → Option (List Value)
  | [] => some []
  | x :: r => match bufEl k x with
    | some v => match bufEls k r with
      | some l => some (v :: l)
      | none => none
    | none => none

def vcEff (o : OpK) (tm : Tm) (R : RO) (H : List SObj) (K : SV → RO → List SObj → Prop) : Prop :=
  match o with
  | .alc z e => K (.ptr (hlen H) 0) R (hpush H (.cells z e))
  | .box k e x => match k with
    | .sc => match svScal (ev tm x) with
      | true => K (.ptr (hlen H) 0) R (hpush H (.cells (.cons 1 (ev tm x) .nil) e))
      | false => False
    | .ag n ws => chunks n ws (ev tm x) fun cs => K (.ptr (hlen H) 0) R (hpush H (.cells cs e))
  | .bld z ps => vcBld tm ps z fun cs => K (.agg cs) R H
  | .bsl e k n _ ps => match Nat.beq (plen ps) n, inOrder ps 0 with
    | true, true => vcBsl k (evs tm (psnd ps)) fun cs => match bufEls k (evs tm (psnd ps)) with
      | some es => K (.sl (hlen H) 0 0 (ksz k) n n) R (hpush H (.buf es (ksz k) e))
      | none => K (.sl (hlen H) 0 0 (ksz k) n n) R (hpush H (.cells cs e))
    | _, _ => False
  | .st k a x => match ev tm a with
    | .ptr n off => match hget H n with
      | .cells cs e => stC k cs off (ev tm x) fun cs' => K .any R (hset H n (.cells cs' e))
      | _ => False
    | _ => False
  | _ => False

/-- what an operation that writes or makes memory comes to -/
def EffOk (P : Program) (T : List Blk) (a : Act) (o : Oper) (w : World) (R : RO) (K : SV → RO → List SObj → Prop) : Prop :=
  ∃ r w' v sv R' H' L, (execOp a.eval o).run P w = .ok r w' ∧ (r = .value v ∨ (r = .skip ∧ v = undef)) ∧ DV (T ++ L) sv v ∧ DH P w' R' (T ++ L) H' ∧ WS w w' T L ∧ RG R R' w T ∧ K sv R' H'

theorem alloc_ws (w : World) (x : Obj) : w.heap.size < (w.alloc x).heap.size ∧ (∀ k, k < w.heap.size → (w.alloc x).heap[k]? = w.heap[k]?) ∧ (w.alloc x).heap[w.heap.size]? = some x :=
  ⟨by simp, fun k hk => heap_alloc_old w x hk, heap_alloc_new w x⟩

/-- a new block of cells -/
theorem new_cells (hdh : DH P w R T H) {cs : SC} {arr : Array Value} {e : TypeId} (hd : DC T cs arr.toList) :
    DH P (w.alloc (.cells arr e)) R (T ++ [.at w.heap.size 0 arr.size]) (hpush H (.cells cs e)) ∧ WS w (w.alloc (.cells arr e)) T [.at w.heap.size 0 arr.size] ∧
    (T ++ [Blk.at w.heap.size 0 arr.size])[hlen H]? = some (.at w.heap.size 0 arr.size) := by
  obtain ⟨h1, h2, h3⟩ := alloc_ws w (.cells arr e)
  have hg : (T ++ [Blk.at w.heap.size 0 arr.size])[hlen H]? = some (.at w.heap.size 0 arr.size) := by
    rw [hlen_eq, ← hdh.len, List.getElem?_append_right (Nat.le_refl _)]; simp
  refine ⟨hdh.push h1 h2 ⟨w.heap.size, arr, by rw [← hlen_eq]; exact hg, h3, hd.ext _⟩, .push rfl rfl rfl (Nat.le_of_lt h1) h2, hg⟩

theorem e_alc (e : TypeId) (z : SC) (hz : zeroSC P e = some z) (ho : o.op = .alloc e) (hdh : DH P w R T H) {K : SV → RO → List SObj → Prop}
    (h : vcEff (.alc z e) tm R H K) : EffOk P T a o w R K := by
  simp only [vcEff] at h
  unfold zeroSC at hz
  cases hi : P.info? e with
  | none => rw [hi] at hz; simp at hz
  | some i =>
    cases hzr : i.zero with
    | none => rw [hi] at hz; simp [hzr] at hz
    | some v =>
      rw [hi] at hz
      simp [hzr] at hz
      have hd := mkSC_ok (T := T) hz
      obtain ⟨h1, h2, h3⟩ := new_cells (e := e) (arr := v.cells) hdh (by simpa using hd)
      refine ⟨_, w.alloc (.cells v.cells e), .pointer (some ⟨w.heap.size, 0, none⟩), _, R, _, _, ?_, .inl rfl, .ptr h3, h1, h2, .refl _ _ _, h⟩
      simp [execOp, ho, Instr.alloc, zeroValue, typeInfo, hi, hzr, newVar, newRow]

theorem e_box (e : TypeId) (x : Operand) (k : AK) (hk : trAK P e = some k) (ho : o.op = .box e x) (ht : DT T tm a.tmps) (hdh : DH P w R T H) {K : SV → RO → List SObj → Prop}
    (h : vcEff (.box k e x) tm R H K) : EffOk P T a o w R K := by
  simp only [vcEff] at h
  have hx := ev_ok ht x
  have fin : ∀ cs, DC T cs (vcells (a.eval x)) → K (.ptr (hlen H) 0) R (hpush H (.cells cs e)) → EffOk P T a o w R K := by
    intro cs hd h
    obtain ⟨h1, h2, h3⟩ := new_cells (e := e) (arr := (a.eval x).cells) hdh (by simpa [vcells] using hd)
    refine ⟨_, w.alloc (.cells (a.eval x).cells e), .pointer (some ⟨w.heap.size, 0, none⟩), _, R, _, _, ?_, .inl rfl, .ptr h3, h1, h2, .refl _ _ _, h⟩
    simp [execOp, ho, Instr.box, newVar, newRow]
  split at h
  · split at h
    · rename_i hs
      have := svScal_ok hx hs
      exact fin _ (by rw [vcells_scal this]; exact .one hx this .nil) h
    · exact h.elim
  · obtain ⟨cs, arr, hv, h1, h2, h3⟩ := chunks_ok hx h
    exact fin cs (by rw [hv]; exact h2) h3

theorem e_st (t : TypeId) (x y : Operand) (k : AK) (hk : trAK P t = some k) (ho : o.op = .store t x y) (ht : DT T tm a.tmps) (hdh : DH P w R T H) {K : SV → RO → List SObj → Prop}
    (h : vcEff (.st k x y) tm R H K) : EffOk P T a o w R K := by
  simp only [vcEff] at h
  have hx := ev_ok ht x
  have hy := ev_ok ht y
  split at h
  · rename_i n off he
    rw [he] at hx
    obtain ⟨b, base, sz, g1, hv⟩ := ptr_inv hx
    split at h
    · rename_i cs e hc
      have hcs := hget_some hc rfl
      obtain ⟨b', arr, f1, f2, f3⟩ := hdh.obj n _ hcs
      rw [f1] at g1
      simp only [Option.some.injEq, Blk.at.injEq] at g1
      obtain ⟨rfl, rfl, rfl⟩ := g1
      obtain ⟨s', h1, h2, h3, h4⟩ := stC_ok f3 hy h
      have h3 : off + (vcells (a.eval y)).length ≤ arr.size := by rw [← Array.length_toList (xs := arr)]; exact h3
      have hr := run_storeAt hk h4 (off := off) f2 h3
      have hlive : Live H n := ⟨_, hcs, rfl⟩
      have hne : ∀ k', k' ≠ b' → (w.setRow b' (arr.toList.take off ++ vcells (a.eval y) ++ arr.toList.drop (off + (vcells (a.eval y)).length)).toArray).heap[k']? = w.heap[k']? := fun k' hk' => setRow_ne w b' k' _ hk'
      have hlen : (arr.toList.take off ++ vcells (a.eval y) ++ arr.toList.drop (off + (vcells (a.eval y)).length)).toArray.size = arr.size := by
        simp only [List.size_toArray, List.length_append, List.length_take, List.length_drop, Array.length_toList]; omega
      generalize hW : w.setRow b' (arr.toList.take off ++ vcells (a.eval y) ++ arr.toList.drop (off + (vcells (a.eval y)).length)).toArray = W at hr hne
      refine ⟨.skip, W, undef, .any, R, hset H n (.cells s' e), [], ?_, .inr ⟨rfl, rfl⟩, .any _, ?_, ?_, .refl _ _ _, h1⟩
      · simp [execOp, ho, hv, hr, Sem.run_bind]
      · rw [List.append_nil]
        refine hdh.upd f1 hlive (by rw [← hW]; exact setRow_size _ _ _) hne ⟨b', (arr.toList.take off ++ vcells (a.eval y) ++ arr.toList.drop (off + (vcells (a.eval y)).length)).toArray, by rw [hlen]; exact f1, ?_, by simpa using h2⟩
        rw [← hW]; exact setRow_heap w b' arr _ e _ f2
      · subst hW; exact .upd ⟨n, _, _, f1⟩ rfl rfl rfl (setRow_size _ _ _) hne
    · exact h.elim
  · exact h.elim

end Go.SX

/- The symbolic machine: strings and bytes; append; make. -/
namespace Go.SX
open Go

variable {P : Program} {T : List Blk} {tm : Tm} {a : Act} {o : Oper} {w w' : World} {R : RO} {H : List SObj}

def ROadd (R : RO) (b : Nat) (x : Obj) : RO := fun k => if k = b then some x else R k

/-- a new block that only will be read -/
theorem ro_push (hdh : DH P w R T H) {x : Obj} (hs : w.heap.size < w'.heap.size) (hb : ∀ k, k < w.heap.size → w'.heap[k]? = w.heap[k]?) (hx : w'.heap[w.heap.size]? = some x) :
    DH P w' (ROadd R w.heap.size x) T H ∧ RG R (ROadd R w.heap.size x) w T ∧ SubRO R (ROadd R w.heap.size x) := by
  have hlt : ∀ k y, R k = some y → k < w.heap.size := fun k y hk => (Array.getElem?_eq_some_iff.1 (hdh.ro k y hk)).1
  have hsub : SubRO R (ROadd R w.heap.size x) := fun k y hk => by
    have := hlt k y hk
    simp only [ROadd]; rw [if_neg (by omega)]; exact hk
  have d := hdh.same (w' := w') (Nat.le_of_lt hs) hb
  refine ⟨⟨d.len, d.obj, d.dis, d.lt, fun k y hk => ?_, fun k y n bs sz hk hn hl => ?_⟩, ⟨hsub, fun k y hk => ?_⟩, hsub⟩
  · simp only [ROadd] at hk
    split at hk
    · cases hk; subst_vars; exact hx
    · exact d.ro k y hk
  · simp only [ROadd] at hk
    split at hk
    · subst_vars; have := hdh.lt n _ _ _ hn; omega
    · exact d.rod k y n bs sz hk hn hl
  · simp only [ROadd] at hk
    split at hk
    · exact .inr (.inr (by omega))
    · exact .inl hk

def bytesV (s : ByteArray) : List Value := s.data.toList.map fun b => Value.int .u8 b.toNat

theorem bytesV_eok (s : ByteArray) : ∀ v ∈ bytesV s, EOk 1 v := by
  intro v hv
  obtain ⟨b, _, rfl⟩ := List.mem_map.1 hv
  exact ⟨fun _ => rfl, fun h => absurd rfl h⟩

theorem bytesV_flat (s : ByteArray) : (bytesV s).flatMap vcells = bytesV s := by
  have : ∀ l : List Value, (∀ v ∈ l, SX.scal v = true) → l.flatMap vcells = l := by
    intro l
    induction l with
    | nil => simp
    | cons x r ih => intro h; simp [vcells_scal (h x (by simp)), ih (fun v hv => h v (by simp [hv]))]
  exact this _ (fun v hv => by obtain ⟨b, _, rfl⟩ := List.mem_map.1 hv; rfl)

theorem bytesV_len (s : ByteArray) : (bytesV s).length = s.size := by simp [bytesV]

inductive S2B (s : ByteArray) (R : RO) (K : SV → RO → Prop) : Prop
  | mk (h : ∀ (k len cap : Nat) (R' : RO), len = s.size → SubRO R R' → ROSl R' (.slice (some ⟨k, 0, none⟩) len cap) (bytesV s) 1 → K (.raw (.slice (some ⟨k, 0, none⟩) len cap)) R') : S2B s R K
inductive B2S (R : RO) (v : Value) (K : ByteArray → Prop) : Prop
  | mk (s : ByteArray) (h : ROSl R v (bytesV s) 1) (hK : K s) : B2S R v K
inductive B2B (es : List Value) (i len : Nat) (K : ByteArray → Prop) : Prop
  | mk (s : ByteArray) (h : (es.drop i).take len = bytesV s) (hl : len = s.size) (hK : K s) : B2B es i len K

def vcCv (k : CVK) (x : SV) (R : RO) (H : List SObj) (K : SV → RO → List SObj → Prop) : Prop :=
  match k with
  | .s2b _ => match x with
    | .raw (.string s) => S2B s R fun v R' => K v R' H
    | _ => False
  | .b2s => match x with
    | .raw v => B2S R v fun s => K (.raw (.string s)) R H
    | .sl n off i w len _ => match hget H n with
      | .buf es w' _ => match Nat.beq w 1, Nat.beq w' 1, Nat.beq off 0 with
        | true, true, true => B2B es i len fun s => K (.raw (.string s)) R H
        | _, _, _ => False
      | _ => False
    | .ze => K (.raw (.string .empty)) R H
    | _ => False
  | _ => False

theorem e_s2b (s d e : TypeId) (x : Operand) (hs : P.underlying s = some .string) (hd : P.underlying d = some (.slice e)) (he : P.underlying e = some (.int .u8)) (ho : o.op = .convert s d x) (ht : DT T tm a.tmps) (hdh : DH P w R T H) {K : SV → RO → List SObj → Prop}
    (h : vcCv (.s2b e) (ev tm x) R H K) : EffOk P T a o w R K := by
  have hx := ev_ok ht x
  simp only [vcCv] at h
  split at h
  · rename_i str hv
    rw [hv] at hx
    have hx := raw_inv hx
    obtain ⟨h1, h2, h3⟩ := ro_push hdh (by rw [Lib.bytesWorld_size]; omega) (fun k hk => Lib.bytesWorld_at_old w e str k hk) (Lib.bytesWorld_at_new w e str)
    cases h with
    | mk h =>
      have hcap : str.size ≤ grownCap w str.size 0 e := grownCap_ge w str.size 0 e
      refine ⟨.value (.slice (some ⟨w.heap.size, 0, none⟩) str.size (grownCap w str.size 0 e)), Lib.bytesWorld w e str, _, _, _, H, [], ?_, .inl rfl, .raw _, by rw [List.append_nil]; exact h1,
        ⟨rfl, rfl, rfl, by rw [Lib.bytesWorld_size]; omega, fun k hk _ => Lib.bytesWorld_at_old w e str k hk, fun k hk => .inl (by simpa using hk)⟩, h2, h w.heap.size _ _ _ rfl h3 (.inl ⟨w.heap.size, 0, _, _, _, _, [], List.replicate (grownCap w str.size 0 e - str.size) (.int .u8 0), by rw [bytesV_len], by rw [bytesV_len]; exact hcap, by simp [ROadd]; exact ⟨rfl, rfl, rfl⟩, ?_, rfl, bytesV_eok str⟩)⟩
      · simp [execOp, ho, hx, Sem.run_bind, Lib.run_convert_string_bytes w s d e str hs hd he]
      · rw [bytesV_flat]; simp [Lib.bytesCells, bytesV]
  · exact h.elim

theorem cells_get {arr : Array Value} {b e : Nat} {fr : Nat × Nat} {pre mid post : List Value} (hb : w.heap[b]? = some (.cells arr e fr)) (h1 : arr.toList = pre ++ (mid ++ post)) {off j : Nat} (h2 : pre.length = off) (hj : j < mid.length) :
    w.cell? ⟨b, off + j, none⟩ = mid[j]? := by
  simp only [World.cell?, hb]
  have := mid_get (l := pre) (m := mid) (r := post) (j := j) h2 hj
  rw [← h1] at this
  simpa using this

theorem ze_inv {v : Value} (h : DV T .ze v) : ∃ q, v = .slice q 0 0 := by cases h; exact ⟨_, rfl⟩

theorem flat_sub {wd : Nat} {es news : List Value} {i : Nat} (h : ∀ v ∈ es, EOk wd v) (hn : (es.drop i).take news.length = news) :
    ∃ l r, es.flatMap vcells = l ++ (news.flatMap vcells ++ r) ∧ (news = [] ∨ l.length = i * wd) := by
  refine ⟨(es.take i).flatMap vcells, ((es.drop i).drop news.length).flatMap vcells, ?_, ?_⟩
  · conv => lhs; rw [← List.take_append_drop i es, ← List.take_append_drop news.length (es.drop i), hn]
    simp
  · by_cases h0 : news = []
    · exact .inl h0
    · right
      rw [flat_len (w := wd) (fun v hv => h v (List.mem_of_mem_take hv))]
      have : i ≤ es.length := by
        rcases Nat.lt_or_ge es.length i with hlt | hge
        · rw [List.drop_eq_nil_of_le (by omega)] at hn; simp at hn; exact absurd hn h0
        · exact hge
      rw [List.length_take, Nat.min_eq_left this]

theorem b2s_run (s d e : TypeId) (x : Operand) (hs : P.underlying s = some (.slice e)) (hd : P.underlying d = some .string) (he : P.underlying e = some (.int .u8)) (ho : o.op = .convert s d x)
    {str : ByteArray} {b off cap len : Nat} (hx : a.eval x = .slice (some ⟨b, off, none⟩) len cap) (hl : len = str.size) (hc : ∀ j, j < str.size → w.cell? ⟨b, off + j, none⟩ = (bytesV str)[j]?) :
    (execOp a.eval o).run P w = .ok (.value (.string str)) w := by
  subst hl
  have := run_convert_bytes_back w s d e ⟨b, off, none⟩ cap str.data.toList (P := P) hs he hd (fun j hj => by
    rw [Addr.add_mid, hc j (by simpa using hj)]
    simp [bytesV] at hj ⊢
    simp [hj])
  simp at this
  simp [execOp, ho, hx, Sem.run_bind]
  rw [this]
  rfl

theorem e_b2s (s d e : TypeId) (x : Operand) (hs : P.underlying s = some (.slice e)) (hd : P.underlying d = some .string) (he : P.underlying e = some (.int .u8)) (ho : o.op = .convert s d x) (ht : DT T tm a.tmps) (hdh : DH P w R T H) {K : SV → RO → List SObj → Prop}
    (h : vcCv .b2s (ev tm x) R H K) : EffOk P T a o w R K := by
  have hx := ev_ok ht x
  have fin : ∀ str, (execOp a.eval o).run P w = .ok (.value (.string str)) w → K (.raw (.string str)) R H → EffOk P T a o w R K := by
    intro str h1 h2
    exact ⟨_, w, _, _, R, H, [], h1, .inl rfl, .raw _, by rw [List.append_nil]; exact hdh, .refl _ _, .refl _ _ _, h2⟩
  have nil : ∀ q c, a.eval x = .slice q 0 c → (execOp a.eval o).run P w = .ok (.value (.string .empty)) w := by
    intro q c hq
    cases q with
    | none => simp [execOp, ho, hq, Sem.run_bind, convert, run_underlying hs, run_underlying hd, run_underlying he, Conv.bytesToString]
    | some q =>
      obtain ⟨qb, qo, qs⟩ := q
      simp [execOp, ho, hq, Sem.run_bind, convert, run_underlying hs, run_underlying hd, run_underlying he, Conv.bytesToString, loadCells, loadCellsFrom]
  have emp : ∀ str : ByteArray, str.size = 0 → str = .empty := fun str h => by
    apply ByteArray.ext; apply Array.ext' ; have : str.data.toList.length = 0 := by simpa using h
    simpa using List.length_eq_zero_iff.1 this
  simp only [vcCv] at h
  split at h
  · rename_i v hv
    rw [hv] at hx
    have hx := raw_inv hx
    cases h with
    | mk str h1 hK =>
      rcases h1 with ⟨k, q, cap, arr, et, fr, pre, post, e1, e2, e3, e4, e5, e6⟩ | ⟨e1, qq, e2⟩
      · refine fin str (b2s_run s d e x hs hd he ho (by rw [hx, e1]) (bytesV_len str) fun j hj => ?_) hK
        rw [bytesV_flat] at e4
        exact cells_get (hdh.ro _ _ e3) e4 e5 (by rw [bytesV_len]; exact hj)
      · have h0 : str.size = 0 := by rw [← bytesV_len, e1]; rfl
        rw [emp str h0] at hK
        exact fin _ (nil qq 0 (by rw [hx, e2])) hK
  · rename_i n off i wd len cap hv
    rw [hv] at hx
    split at h
    · rename_i es w' et hob
      split at h
      · rename_i q1 q2 q3
        have q1 := Nat.eq_of_beq_eq_true q1
        have q2 := Nat.eq_of_beq_eq_true q2
        have q3 := Nat.eq_of_beq_eq_true q3
        subst q1 q2 q3
        cases h with
        | mk str h1 hl hK =>
          rcases sl_inv hx with ⟨b, base, sz, g1, g2, g3, hv'⟩ | ⟨g1, rfl, rfl, x0, hv'⟩ | ⟨b, base, sz, o', g1, rfl, rfl, hv'⟩
          · rcases hdh.obj n _ (hget_some hob rfl) with ⟨g1', _⟩ | ⟨b', base', arr, post, pre, f1, f2, f3, f4, f5⟩
            · rw [g1'] at g1; cases g1
            · rw [f1] at g1
              simp only [Option.some.injEq, Blk.at.injEq] at g1
              obtain ⟨rfl, rfl, rfl⟩ := g1
              obtain ⟨l, r, e1, e2⟩ := flat_sub f5 (news := bytesV str) (i := i) (by rw [bytesV_len, ← hl]; exact h1)
              rw [bytesV_flat] at e1
              have e2len : ∀ j, j < str.size → (pre ++ l).length = base' + 0 + i * 1 := by
                intro j hj
                rcases e2 with e2 | e2
                · rw [← bytesV_len, e2] at hj; simp at hj
                · simp [f4, e2]
              refine fin str (b2s_run s d e x hs hd he ho hv' hl fun j hj => ?_) hK
              refine cells_get f2 (pre := pre ++ l) (post := r ++ post) (mid := bytesV str) (by rw [f3, e1]; simp) (e2len j hj) (by rw [bytesV_len]; exact hj)
          · rw [emp str hl.symm] at hK; exact fin _ (nil _ _ hv') hK
          · rw [emp str hl.symm] at hK; exact fin _ (nil _ _ hv') hK
      · exact h.elim
    · exact h.elim
  · rename_i hv
    rw [hv] at hx
    obtain ⟨q, hq⟩ := ze_inv hx
    exact fin _ (nil q 0 hq) h
  · exact h.elim

end Go.SX

/- The symbolic machine: append. -/
namespace Go.SX
open Go

variable {P : Program} {T : List Blk} {tm : Tm} {a : Act} {o : Oper} {w w' : World} {R : RO} {H : List SObj}

inductive TkE (es : List Value) (i len : Nat) (K : List Value → Prop) : Prop
  | mk (news : List Value) (h : (es.drop i).take len = news) (hl : news.length = len) (hK : K news) : TkE es i len K
inductive RoE (R : RO) (v : Value) (wd : Nat) (K : List Value → Prop) : Prop
  | mk (es : List Value) (h : ROSl R v es wd) (hK : K es) : RoE R v wd K

/-- a literal's elements, where all are known -/
def rawEls (wd : Nat) : SC → Option (List Value)
  | .nil => some []
  | .cons k v r => match Nat.beq k wd with
    | true => match v with
      | .raw v => match rawEls wd r with
        | some l => some (v :: l)
        | none => none
      | _ => none
    | false => none

def llen : List Value → Nat
  | [] => 0
  | _ :: r => llen r + 1

/-- the elements of what is appended or copied -/
def vcSrc (y : SV) (wd : Nat) (R : RO) (H : List SObj) (K : List Value → Prop) : Prop :=
  match y with
  | .sl n off i w' len _ => match Nat.beq w' wd, Nat.beq off 0 with
    | true, true => match hget H n with
      | .buf es w'' _ => match Nat.beq w'' wd with
        | true => TkE es i len K
        | false => False
      | .cells cs _ => match i, rawEls wd cs with
        | 0, some l => match Nat.beq (llen l) len with
          | true => K l
          | false => False
        | _, _ => False
      | _ => False
    | _, _ => False
  | .raw v => RoE R v wd K
  | .ze => K []
  | _ => False

/-- what append comes to: a new name; the old one is given up -/
inductive ApR (olds news : List Value) (by_ : Nat) (K : List Value → Nat → Nat → Prop) : Prop
  | mk (hb : (olds ++ news).length * by_ ≤ 2 ^ 47 ∧ (olds ++ news).length ≤ 2 ^ 62) (h : ∀ (es : List Value) (len cap : Nat), es = olds ++ news → len = es.length → len ≤ cap → K es len cap) : ApR olds news by_ K

def vcApp (x : SV) (wd e by_ : Nat) (news : List Value) (R : RO) (H : List SObj) (K : SV → RO → List SObj → Prop) : Prop :=
  match x with
  | .raw (.slice none 0 0) => ApR [] news by_ fun es len cap => K (.sl (hlen H) 0 0 wd len cap) R (hpush H (.buf es wd e))
  | .ze => ApR [] news by_ fun es len cap => K (.sl (hlen H) 0 0 wd len cap) R (hpush H (.buf es wd e))
  | .sl n off i w' len _ => match i, Nat.beq off 0, Nat.beq w' wd with
    | 0, true, true => match hget H n with
      | .buf olds w'' e' => match Nat.beq w'' wd, Nat.beq e' e with
        | true, true => Rq (fun _ => len = olds.length) fun _ => ApR olds news by_ fun es len cap => K (.sl (hlen H) 0 0 wd len cap) R (hpush (hset H n .dead) (.buf es wd e))
        | _, _ => False
      | _ => False
    | _, _, _ => False
  | _ => False

/-! ### soundness -/
structure SrcE (P : Program) (w : World) (wd : Nat) (x : Value) (news : List Value) : Prop where
  src : Src P w wd x news.length (news.flatMap vcells)
  ok : ∀ v ∈ news, EOk wd v

theorem flat_scal {wd : Nat} {es : List Value} (h : ∀ v ∈ es, EOk wd v) : ∀ x ∈ es.flatMap vcells, scal x = true := by
  intro x hx
  obtain ⟨v, hv, hx⟩ := List.mem_flatMap.1 hx
  exact (h v hv).scal x hx

theorem llen_eq (l : List Value) : llen l = l.length := by induction l with | nil => rfl | cons x r ih => simp [llen, ih]

theorem src_zero {wd : Nat} (q : Option Addr) (c : Nat) : Src P w wd (.slice q 0 c) 0 [] :=
  ⟨fun w2 => by simp [Builtin.lenOf], fun w2 k _ hk => by
    have : k = 0 := by omega
    subst this
    cases q with
    | none => simp [Builtin.firstCells]
    | some q => simp [Builtin.firstCells, loadCells, loadCellsFrom], by simp, by simp⟩

theorem rawEls_ok {wd : Nat} : ∀ {cs : SC} {l : List Value} {m : List Value}, DC T cs l → rawEls wd cs = some m → l = m.flatMap vcells ∧ ∀ v ∈ m, EOk wd v
  | .nil, _, m, h, hm => by cases h; simp [rawEls] at hm; subst hm; simp
  | .cons k v r, _, m, h, hm => by
    simp only [rawEls] at hm
    cases hb : Nat.beq k wd with
    | false => rw [hb] at hm; cases hm
    | true =>
      rw [hb] at hm
      have hb := Nat.eq_of_beq_eq_true hb
      subst hb
      cases v with
      | raw x =>
        simp only at hm
        cases hr : rawEls k r with
        | none => rw [hr] at hm; cases hm
        | some m' =>
          rw [hr] at hm; cases hm
          cases h with
          | one p q t =>
            cases p
            obtain ⟨e1, e2⟩ := rawEls_ok t hr
            refine ⟨by simp [vcells_scal q, e1], fun v hv => ?_⟩
            rcases List.mem_cons.1 hv with rfl | hv
            · exact ⟨fun _ => q, fun h => absurd rfl h⟩
            · exact e2 v hv
          | many p q c d t =>
            cases q
            obtain ⟨e1, e2⟩ := rawEls_ok t hr
            refine ⟨by simp [vcells, Value.cells, e1], fun v hv => ?_⟩
            rcases List.mem_cons.1 hv with rfl | hv
            · exact ⟨fun h => absurd h p, fun _ => ⟨_, rfl, c, d⟩⟩
            · exact e2 v hv
      | _ => simp at hm

theorem vcSrc_ok {y : SV} {yv : Value} {wd : Nat} {K : List Value → Prop} (hdh : DH P w R T H) (hy : DV T y yv) (h : vcSrc y wd R H K) : ∃ news, SrcE P w wd yv news ∧ K news := by
  simp only [vcSrc] at h
  split at h
  · rename_i n off i w' len cap
    split at h
    · rename_i q1 q2
      have q1 := Nat.eq_of_beq_eq_true q1
      have q2 := Nat.eq_of_beq_eq_true q2
      subst q1 q2
      split at h
      · rename_i es w'' et hob
        split at h
        · rename_i q3
          have q3 := Nat.eq_of_beq_eq_true q3
          subst q3
          cases h with
          | mk news h1 hl hK =>
            subst hl
            have hok : ∀ v ∈ es, EOk w'' v := by
              rcases hdh.obj n _ (hget_some hob rfl) with ⟨_, rfl⟩ | ⟨b', base', arr, post, pre, f1, f2, f3, f4, f5⟩
              · simp
              · exact f5
            have hnok : ∀ v ∈ news, EOk w'' v := fun v hv => by rw [← h1] at hv; exact hok v (List.mem_of_mem_drop (List.mem_of_mem_take hv))
            refine ⟨news, ⟨?_, hnok⟩, hK⟩
            rcases sl_inv hy with ⟨b, base, sz, g1, g2, g3, rfl⟩ | ⟨g1, hl0, rfl, x0, rfl⟩ | ⟨b, base, sz, o', g1, hl0, rfl, rfl⟩
            · rcases hdh.obj n _ (hget_some hob rfl) with ⟨g1', _⟩ | ⟨b', base', arr, post, pre, f1, f2, f3, f4, f5⟩
              · rw [g1'] at g1; cases g1
              · rw [f1] at g1
                simp only [Option.some.injEq, Blk.at.injEq] at g1
                obtain ⟨rfl, rfl, rfl⟩ := g1
                obtain ⟨l, r, e1, e2⟩ := flat_sub f5 h1
                rcases e2 with rfl | e2
                · exact src_zero _ _
                · exact src_block f2 (pre := pre ++ l) (post := r ++ post) (by rw [f3, e1]; simp) (by simp [f4, e2]) (flat_len hnok) (flat_scal hnok)
            · have := List.length_eq_zero_iff.1 hl0; subst this; exact src_zero _ _
            · have := List.length_eq_zero_iff.1 hl0; subst this; exact src_zero _ _
        · exact h.elim
      · rename_i cs et hob
        split at h
        · rename_i l hl
          split at h
          · rename_i q3
            have q3 := Nat.eq_of_beq_eq_true q3
            rw [llen_eq] at q3
            subst q3
            obtain ⟨b, arr, f1, f2, f3⟩ := hdh.obj n _ (hget_some hob rfl)
            obtain ⟨e1, e2⟩ := rawEls_ok f3 hl
            refine ⟨l, ⟨?_, e2⟩, h⟩
            rcases sl_inv hy with ⟨b, base, sz, g1, g2, g3, rfl⟩ | ⟨g1, hl0, rfl, x0, rfl⟩ | ⟨b, base, sz, o', g1, hl0, rfl, rfl⟩
            · rw [f1] at g1
              simp only [Option.some.injEq, Blk.at.injEq] at g1
              obtain ⟨rfl, rfl, rfl⟩ := g1
              exact src_block f2 (pre := []) (post := []) (by rw [e1]; simp) (by simp) (flat_len e2) (flat_scal e2)
            · have := List.length_eq_zero_iff.1 hl0; subst this; exact src_zero _ _
            · have := List.length_eq_zero_iff.1 hl0; subst this; exact src_zero _ _
          · exact h.elim
        · exact h.elim
      · exact h.elim
    · exact h.elim
  · rename_i v
    have hv := raw_inv hy
    subst hv
    cases h with
    | mk es h1 hK =>
      rcases h1 with ⟨k, q, cap, arr, et, fr, pre, post, rfl, e2, e3, e4, e5, e6⟩ | ⟨rfl, qq, rfl⟩
      · exact ⟨es, ⟨src_block (hdh.ro _ _ e3) e4 e5 (flat_len e6) (flat_scal e6), e6⟩, hK⟩
      · exact ⟨[], ⟨src_zero _ _, by simp⟩, hK⟩
  · obtain ⟨q, rfl⟩ := ze_inv hy
    exact ⟨[], ⟨src_zero _ _, by simp⟩, h⟩
  · exact h.elim

end Go.SX

/- The symbolic machine: append, its soundness. -/
namespace Go.SX
open Go

variable {P : Program} {T : List Blk} {tm : Tm} {a : Act} {o : Oper} {w w' : World} {R : RO} {H : List SObj}

/-- a name given up, its block under a new name -/
theorem DH.again (h : DH P w R T H) {n b base sz : Nat} {x : SObj} (hn : T[n]? = some (.at b base sz)) (hl : Live H n)
    (hs : w'.heap.size = w.heap.size) (hb : ∀ k, k ≠ b → w'.heap[k]? = w.heap[k]?) (hx : DO P w' (T ++ [.at b base sz]) H.length x) :
    DH P w' R (T ++ [.at b base sz]) (hpush (hset H n .dead) x) ∧ ∀ (hos : w'.os = w.os) (htp : w'.tape = w.tape) (hop : w'.output = w.output), WS w w' T [.at b base sz] := by
  rw [hpush_eq, hset_eq]
  have hTn : ∀ m b' bs sz', (T ++ [Blk.at b base sz])[m]? = some (Blk.at b' bs sz') → (m < T.length ∧ T[m]? = some (Blk.at b' bs sz')) ∨ (m = T.length ∧ b' = b) := by
    intro m b' bs sz' hm
    by_cases hlt : m < T.length
    · rw [List.getElem?_append_left hlt] at hm; exact .inl ⟨hlt, hm⟩
    · rw [List.getElem?_append_right (by omega)] at hm
      have h0 : m - T.length = 0 := by
        have := (List.getElem?_eq_some_iff.1 hm).1; simp at this; omega
      rw [h0] at hm
      simp at hm
      exact .inr ⟨by omega, hm.1.symm⟩
  have hlive : ∀ m, m < T.length → Live (H.set n .dead ++ [x]) m → Live H m ∧ m ≠ n := by
    rintro m hm ⟨y, h1, h2⟩
    rw [List.getElem?_append_left (by simp [← h.len, hm])] at h1
    by_cases e : n = m
    · subst e
      have hlt : n < H.length := by rw [← h.len]; exact hm
      rw [List.getElem?_set_self hlt] at h1; cases h1; cases h2
    · rw [List.getElem?_set_ne e] at h1; exact ⟨⟨y, h1, h2⟩, fun q => e q.symm⟩
  have hbl : b < w.heap.size := h.lt n _ _ _ hn
  refine ⟨⟨by simp [h.len], fun m y hm => ?_, fun m k b' bs sz' bs' sz'' h1 h2 l1 l2 => ?_, fun m b' bs sz' h1 => ?_, fun k y hk => ?_, fun k y m bs sz' hk hm lm => ?_⟩, fun hos htp hop => ⟨hos, htp, hop, Nat.le_of_eq hs.symm, fun k _ hno => hb k (fun e => by subst e; exact hno ⟨n, _, _, hn⟩), fun k hk => ?_⟩⟩
  · by_cases hlt : m < H.length
    · rw [List.getElem?_append_left (by simpa using hlt)] at hm
      by_cases e : n = m
      · subst e
        rw [List.getElem?_set_self hlt] at hm
        cases hm; trivial
      · rw [List.getElem?_set_ne e] at hm
        by_cases hy : y.live = true
        · refine ((h.obj m y hm).congr fun b' bs' sz' hm' => hb _ (fun e' => e ?_)).ext _
          subst e'
          exact h.dis n m _ _ _ _ _ hn hm' hl ⟨y, hm, hy⟩
        · cases y <;> first | trivial | exact absurd rfl hy
    · rw [List.getElem?_append_right (by simpa using hlt)] at hm
      have h0 : m - (H.set n .dead).length = 0 := by
        have := (List.getElem?_eq_some_iff.1 hm).1; simp at this ⊢; omega
      rw [h0] at hm
      simp at hm
      subst hm
      have : m = H.length := by simp at h0; omega
      subst this; exact hx
  · rcases hTn _ _ _ _ h1 with ⟨a1, a2⟩ | ⟨a1, a2⟩ <;> rcases hTn _ _ _ _ h2 with ⟨c1, c2⟩ | ⟨c1, c2⟩
    · exact h.dis _ _ _ _ _ _ _ a2 c2 (hlive _ a1 l1).1 (hlive _ c1 l2).1
    · subst c2
      have := h.dis _ _ _ _ _ _ _ a2 hn (hlive _ a1 l1).1 hl
      exact absurd this (hlive _ a1 l1).2
    · subst a2
      have := h.dis _ _ _ _ _ _ _ c2 hn (hlive _ c1 l2).1 hl
      exact absurd this (hlive _ c1 l2).2
    · omega
  · rcases hTn _ _ _ _ h1 with ⟨a1, a2⟩ | ⟨a1, a2⟩
    · rw [hs]; exact h.lt _ _ _ _ a2
    · rw [a2, hs]; exact hbl
  · rw [hb k (fun e => by subst e; exact h.rod _ _ _ _ _ hk hn hl)]; exact h.ro k y hk
  · rcases hTn _ _ _ _ hm with ⟨a1, a2⟩ | ⟨a1, a2⟩
    · exact h.rod k y m _ _ hk a2 (hlive _ a1 lm).1
    · subst a2; exact h.rod k y n _ _ hk hn hl
  · obtain ⟨m, bs, sz', hm⟩ := hk
    rcases hTn _ _ _ _ hm with ⟨a1, a2⟩ | ⟨a1, a2⟩
    · exact .inl ⟨m, bs, sz', a2⟩
    · subst a2; exact .inl ⟨n, _, _, hn⟩

/-- a name with nothing behind it -/
theorem DH.empty (h : DH P w R T H) (e wd : Nat) : DH P w R (T ++ [.absent]) (hpush H (.buf [] wd e)) ∧ WS w w T [.absent] := by
  rw [hpush_eq]
  have hTn : ∀ (m b bs sz : Nat), (T ++ [Blk.absent])[m]? = some (Blk.at b bs sz) → m < T.length ∧ T[m]? = some (Blk.at b bs sz) := by
    intro m b bs sz hm
    by_cases hlt : m < T.length
    · rw [List.getElem?_append_left hlt] at hm; exact ⟨hlt, hm⟩
    · rw [List.getElem?_append_right (by omega)] at hm
      have h0 : m - T.length = 0 := by
        have := (List.getElem?_eq_some_iff.1 hm).1; simp at this; omega
      rw [h0] at hm; simp at hm
  have hlive : ∀ m, m < T.length → Live (H ++ [.buf [] wd e]) m → Live H m := by
    rintro m hm ⟨y, h1, h2⟩
    rw [List.getElem?_append_left (by simp [← h.len, hm])] at h1
    exact ⟨y, h1, h2⟩
  refine ⟨⟨by simp [h.len], fun m y hm => ?_, fun m k b bs sz bs' sz' h1 h2 l1 l2 => ?_, fun m b bs sz h1 => h.lt _ _ _ _ (hTn _ _ _ _ h1).2, h.ro, fun k y m bs sz hk hm lm => h.rod k y m _ _ hk (hTn _ _ _ _ hm).2 (hlive _ (hTn _ _ _ _ hm).1 lm)⟩,
    ⟨rfl, rfl, rfl, Nat.le_refl _, fun _ _ _ => rfl, fun k ⟨m, bs, sz, hm⟩ => .inl ⟨m, bs, sz, (hTn _ _ _ _ hm).2⟩⟩⟩
  · by_cases hlt : m < H.length
    · rw [List.getElem?_append_left hlt] at hm; exact (h.obj m y hm).ext _
    · rw [List.getElem?_append_right (by omega)] at hm
      have h0 : m - H.length = 0 := by have := (List.getElem?_eq_some_iff.1 hm).1; simp at this; omega
      rw [h0] at hm; simp at hm; subst hm
      have : m = T.length := by rw [h.len]; omega
      subst this
      exact .inl ⟨by simp, rfl⟩
  · exact h.dis _ _ _ _ _ _ _ (hTn _ _ _ _ h1).2 (hTn _ _ _ _ h2).2 (hlive _ (hTn _ _ _ _ h1).1 l1) (hlive _ (hTn _ _ _ _ h2).1 l2)

theorem run_app_zero (t t' ty e : TypeId) (i : TypeInfo) (ht : P.underlying t = some (.slice e)) (hi : P.info? e = some i) {d' : TypeDesc} (ht' : P.underlying t' = some d') (hd' : (∃ e', d' = .slice e') ∨ d' = .string)
    {x : Value} {news : List Value} (hx : Src P w i.size x 0 news) (q : Option Addr) :
    (Builtin.append_ #[t, t'] ty #[.slice q 0 0, x]).run P w = .ok (.slice q 0 0) w := by
  have hf := hx.first w 0 (fun _ _ => rfl) (Nat.le_refl _)
  rcases hd' with ⟨e', rfl⟩ | rfl
  all_goals
    cases q with
    | none => simp [Builtin.append_, run_underlying ht, run_underlying ht', sizeOf, typeInfo, hi, hx.len, hf]
    | some q => simp [Builtin.append_, run_underlying ht, run_underlying ht', sizeOf, typeInfo, hi, hx.len, hf, storeCells]


/-- the appended slice, where a new block is laid -/
theorem app_grow {t t' ty e : TypeId} {i : TypeInfo} {z : Value} (ht : P.underlying t = some (.slice e)) (hi : P.info? e = some i) (hz : i.zero = some z) (hzs : z.cells.size = i.size) {d' : TypeDesc} (ht' : P.underlying t' = some d') (hd' : (∃ e', d' = .slice e') ∨ d' = .string)
    {x : Value} {news olds : List Value} (hx : SrcE P w i.size x news) {q : Option Addr} {cap : Nat} (hso : Src P w i.size (.slice q olds.length cap) olds.length (olds.flatMap vcells)) (hok : ∀ v ∈ olds, EOk i.size v)
    (hdh : DH P w R T H) (hg : cap < olds.length + news.length) (hb : (olds ++ news).length * i.bytes ≤ 2 ^ 47 ∧ (olds ++ news).length ≤ 2 ^ 62) :
    ∃ w' b cap', (Builtin.append_ #[t, t'] ty #[.slice q olds.length cap, x]).run P w = .ok (.slice (some ⟨w.heap.size, 0, none⟩) (olds ++ news).length cap') w' ∧ (olds ++ news).length ≤ cap' ∧
      DV (T ++ [b]) (.sl (hlen H) 0 0 i.size (olds ++ news).length cap') (.slice (some ⟨w.heap.size, 0, none⟩) (olds ++ news).length cap') ∧ DH P w' R (T ++ [b]) (hpush H (.buf (olds ++ news) i.size e)) ∧ WS w w' T [b] := by
  obtain ⟨hb1, hb2⟩ := hb
  rw [List.length_append] at hb1 hb2 ⊢
  have hrun := run_app_grow t t' ty e i z ht hi hz ht' hd' hx.src rfl hso hg (by omega) (by simpa using hb1)
  have hc := grownCap_ge w (olds.length + news.length) cap e
  generalize hcap : grownCap w (olds.length + news.length) cap e = cap' at hrun hc
  generalize harr : (olds.flatMap vcells).toArray ++ (news.flatMap vcells).toArray ++ Builtin.zeroCells z.cells (cap' - (olds.length + news.length)) = arr at hrun
  have hsz : arr.size = cap' * i.size := by
    rw [← harr]
    simp only [Array.size_append, List.size_toArray, size_zeroCells, hzs, flat_len hok, flat_len hx.ok]
    rw [← Nat.add_mul, ← Nat.add_mul]
    congr 1; omega
  obtain ⟨a1, a2, a3⟩ := alloc_ws w.drew (.cells arr e)
  have b1 : w.heap.size < (w.drew.alloc (.cells arr e)).heap.size := a1
  have b2 : ∀ k, k < w.heap.size → (w.drew.alloc (.cells arr e)).heap[k]? = w.heap[k]? := a2
  have b3 : (w.drew.alloc (.cells arr e)).heap[w.heap.size]? = some (.cells arr e (0, 0)) := a3
  have hg' : (T ++ [Blk.at w.heap.size 0 arr.size])[hlen H]? = some (.at w.heap.size 0 arr.size) := by
    rw [hlen_eq, ← hdh.len, List.getElem?_append_right (Nat.le_refl _)]; simp
  have hdv := DV.sl (T := T ++ [Blk.at w.heap.size 0 arr.size]) (n := hlen H) (off := 0) (i := 0) (w := i.size) hg' hc (by rw [hsz]; simp)
  simp only [Nat.add_zero, Nat.zero_mul] at hdv
  refine ⟨_, .at w.heap.size 0 arr.size, cap', hrun, hc, hdv, ?_, .push rfl rfl rfl (Nat.le_of_lt b1) b2⟩
  refine hdh.push b1 b2 (.inr ⟨w.heap.size, 0, arr, (Builtin.zeroCells z.cells (cap' - (olds.length + news.length))).toList, [], by rw [← hlen_eq]; exact hg', b3, ?_, rfl, ?_⟩)
  · rw [← harr]; simp
  · intro v hv
    rcases List.mem_append.1 hv with hv | hv
    · exact hok v hv
    · exact hx.ok v hv

theorem e_app {c : Call} (hc : c.callee = .builtin .append) (ho : o.op = .call c) {t t' e : TypeId} {i : TypeInfo} {z : Value} (hts : c.argTypes = #[t, t']) (ht : P.underlying t = some (.slice e)) (hi : P.info? e = some i) (hz : i.zero = some z) (hzs : z.cells.size = i.size)
    {d' : TypeDesc} (ht' : P.underlying t' = some d') (hd' : (∃ e', d' = .slice e') ∨ d' = .string) {sx : SV} {xv yv : Value} (hargs : c.args.toList.map a.eval = [xv, yv]) (hxv : DV T sx xv) (hdh : DH P w R T H) {news : List Value} (hsrc : SrcE P w i.size yv news)
    {K : SV → RO → List SObj → Prop} (h : vcApp sx i.size e i.bytes news R H K) : EffOk P T a o w R K := by
  have hrun : ∀ v w', (Builtin.append_ #[t, t'] o.type #[xv, yv]).run P w = .ok v w' → (execOp a.eval o).run P w = .ok (.value v) w' := by
    intro v w' hv
    rw [call_builtin_run c .append hc ho w, arr2 hargs, hts]
    simp [builtin, Sem.run_bind, hv]
  -- nothing yet
  have nil : ∀ q, xv = .slice q 0 0 → (ApR [] news i.bytes fun es len cap => K (.sl (hlen H) 0 0 i.size len cap) R (hpush H (.buf es i.size e))) → EffOk P T a o w R K := by
    intro q hq h
    subst hq
    cases h with
    | mk hb h =>
      by_cases hm : news = []
      · subst hm
        obtain ⟨h1, h2⟩ := hdh.empty e i.size
        refine ⟨_, w, .slice q 0 0, _, R, _, [.absent], hrun _ _ (run_app_zero t t' o.type e i ht hi ht' hd' hsrc.src q), .inl rfl, .slnil ?_, h1, h2, .refl _ _ _, h _ _ _ rfl rfl (Nat.le_refl _)⟩
        rw [hlen_eq, ← hdh.len, List.getElem?_append_right (Nat.le_refl _)]; simp
      · have hpos : 0 < news.length := by cases news with | nil => exact absurd rfl hm | cons => simp
        obtain ⟨w', b, cap', g1, g2, g3, g4, g5⟩ := app_grow (ty := o.type) (olds := []) ht hi hz hzs ht' hd' hsrc (q := q) (cap := 0) (src_zero q 0) (by simp) hdh (by simpa using hpos) hb
        exact ⟨_, w', _, _, R, _, [b], hrun _ _ g1, .inl rfl, g3, g4, g5, .refl _ _ _, h _ _ _ rfl rfl g2⟩
  simp only [vcApp] at h
  split at h
  · have := raw_inv hxv; exact nil none this h
  · obtain ⟨q, hq⟩ := ze_inv hxv; exact nil q hq h
  · rename_i n off i0 w0 len cap
    split at h
    · rename_i q1 q2
      have q1 := Nat.eq_of_beq_eq_true q1
      have q2 := Nat.eq_of_beq_eq_true q2
      subst q1 q2
      split at h
      · rename_i olds w'' e' hob
        split at h
        · rename_i q3 q4
          have q3 := Nat.eq_of_beq_eq_true q3
          have q4 := Nat.eq_of_beq_eq_true q4
          subst q3 q4
          cases h with
          | mk hl h =>
          have hl : len = olds.length := hl
          subst hl
          cases h with
          | mk hb h =>
          have hlv : Live H n := ⟨_, hget_some hob rfl, rfl⟩
          have hkl : hlen (hset H n .dead) = hlen H := by rw [hlen_eq, hlen_eq, hset_eq]; simp
          -- a new block
          have grow : ∀ (q : Option Addr) (c : Nat), xv = .slice q olds.length c → Src P w i.size (.slice q olds.length c) olds.length (olds.flatMap vcells) → (∀ v ∈ olds, EOk i.size v) → c < olds.length + news.length → EffOk P T a o w R K := by
            intro q c hq hso hok hlt
            subst hq
            obtain ⟨w', b, cap', g1, g2, g3, g4, g5⟩ := app_grow (ty := o.type) ht hi hz hzs ht' hd' hsrc hso hok (hdh.kill n) hlt hb
            rw [hkl] at g3
            exact ⟨_, w', _, _, R, _, [b], hrun _ _ g1, .inl rfl, g3, g4, g5, .refl _ _ _, h _ _ _ rfl rfl g2⟩
          -- nothing in it
          have zero : ∀ q, xv = .slice q 0 0 → olds = [] → EffOk P T a o w R K := by
            intro q hq h0
            subst h0
            by_cases hm : news = []
            · subst hm hq
              obtain ⟨h1, h2⟩ := (hdh.kill n).empty e' i.size
              refine ⟨_, w, .slice q 0 0, .sl (hlen H) 0 0 i.size 0 0, R, _, [.absent], hrun _ _ (run_app_zero t t' o.type e' i ht hi ht' hd' hsrc.src q), .inl rfl, .slnil ?_, h1, h2, .refl _ _ _, h _ _ _ rfl rfl (Nat.le_refl _)⟩
              rw [hlen_eq, ← hdh.len, List.getElem?_append_right (Nat.le_refl _)]; simp
            · have hpos : 0 < news.length := by cases news with | nil => exact absurd rfl hm | cons => simp
              exact grow q 0 hq (src_zero q 0) (by simp) (by simpa using hpos)
          rcases sl_inv hxv with ⟨b, base, sz, g1, g2, g3, hv⟩ | ⟨g1, hl0, rfl, x0, hv⟩ | ⟨b, base, sz, o', g1, hl0, rfl, hv⟩
          · rcases hdh.obj n _ (hget_some hob rfl) with ⟨g1', _⟩ | ⟨b', base', arr, post, pre, f1, f2, f3, f4, f5⟩
            · rw [g1'] at g1; cases g1
            · have f1' := f1
              rw [f1] at g1
              simp only [Option.some.injEq, Blk.at.injEq] at g1
              obtain ⟨rfl, rfl, rfl⟩ := g1
              simp only [Nat.add_zero, Nat.zero_mul] at g3 hv
              by_cases hroom : olds.length + news.length ≤ cap
              · have hnl : (news.flatMap vcells).length = news.length * i.size := flat_len hsrc.ok
                have hol : (olds.flatMap vcells).length = olds.length * i.size := flat_len f5
                have hfit : base' + olds.length * i.size + (news.flatMap vcells).length ≤ arr.size := by
                  rw [hnl]
                  have : olds.length * i.size + news.length * i.size ≤ cap * i.size := by rw [← Nat.add_mul]; exact Nat.mul_le_mul_right _ hroom
                  omega
                have hr := run_app_fits t t' o.type e' i ht hi ht' hd' hsrc.src b' base' olds.length cap arr e' f2 hroom hfit
                rw [← hv] at hr
                generalize hW : w.setRow b' _ = W at hr
                have hne : ∀ k', k' ≠ b' → W.heap[k']? = w.heap[k']? := fun k' hk' => by rw [← hW]; exact setRow_ne w b' k' _ hk'
                have hWs : W.heap.size = w.heap.size := by rw [← hW]; exact setRow_size _ _ _
                have hal : arr.toList.length = arr.size := by simp
                have hnew : W.heap[b']? = some (.cells (arr.toList.take (base' + olds.length * i.size) ++ news.flatMap vcells ++ arr.toList.drop (base' + olds.length * i.size + (news.flatMap vcells).length)).toArray e' (0, 0)) := by
                  rw [← hW]; exact setRow_heap w b' arr _ e' _ f2
                have hlen' : (arr.toList.take (base' + olds.length * i.size) ++ news.flatMap vcells ++ arr.toList.drop (base' + olds.length * i.size + (news.flatMap vcells).length)).toArray.size = arr.size := by
                  simp only [List.size_toArray, List.length_append, List.length_take, List.length_drop, Array.length_toList]; omega
                have hTn : (T ++ [Blk.at b' base' arr.size])[H.length]? = some (.at b' base' arr.size) := by
                  rw [← hdh.len, List.getElem?_append_right (Nat.le_refl _)]; simp
                have htk : arr.toList.take (base' + olds.length * i.size) = pre ++ olds.flatMap vcells := by
                  rw [f3, List.take_append, f4]
                  have e1 : List.take (base' + olds.length * i.size) pre = pre := List.take_of_length_le (by omega)
                  rw [e1, Nat.add_sub_cancel_left, List.take_append, hol, Nat.sub_self, List.take_zero, List.append_nil, List.take_of_length_le (by omega)]
                obtain ⟨d1, d2⟩ := hdh.again (w' := W) (x := .buf (olds ++ news) i.size e') f1' hlv hWs hne
                  (.inr ⟨b', base', _, arr.toList.drop (base' + olds.length * i.size + (news.flatMap vcells).length), pre, by rw [hlen']; exact hTn, hnew, by rw [htk]; simp, f4, fun v hv => by
                    rcases List.mem_append.1 hv with hv | hv
                    · exact f5 v hv
                    · exact hsrc.ok v hv⟩)
                refine ⟨_, W, _, .sl (hlen H) 0 0 i.size (olds.length + news.length) cap, R, _, [.at b' base' arr.size], hrun _ _ hr, .inl rfl, ?_, d1, d2 (by rw [← hW]; rfl) (by rw [← hW]; rfl) (by rw [← hW]; rfl), .refl _ _ _, h _ _ _ rfl (by simp) hroom⟩
                have := DV.sl (T := T ++ [Blk.at b' base' arr.size]) (n := hlen H) (off := 0) (i := 0) (w := i.size) (len := olds.length + news.length) (cap := cap) (by rw [hlen_eq]; exact hTn) hroom (by simpa using g3)
                simpa using this
              · refine grow _ _ hv ?_ f5 (by omega)
                exact src_block f2 (pre := pre) (post := post) f3 f4 (flat_len f5) (flat_scal f5)
          · exact zero x0 hv (List.length_eq_zero_iff.1 hl0)
          · exact zero _ hv (List.length_eq_zero_iff.1 hl0)
        · exact h.elim
      · exact h.elim
    · exact h.elim
  · exact h.elim

end Go.SX

/- The symbolic machine: literals. -/
namespace Go.SX
open Go

variable {P : Program} {T : List Blk} {tm : Tm} {a : Act} {o : Oper} {w w' : World} {R : RO} {H : List SObj}

theorem fold_set (off : Nat) : ∀ (l : List Value) (cs : Array Value) (j : Nat), off + j + l.length ≤ cs.size →
    ((l.zipIdx j).foldl (fun cs (c, j) => cs.setIfInBounds (off + j) c) cs).toList = cs.toList.take (off + j) ++ l ++ cs.toList.drop (off + j + l.length)
  | [], cs, j, h => by simp
  | c :: l, cs, j, h => by
    simp only [List.length_cons] at h
    rw [List.zipIdx_cons, List.foldl_cons, fold_set off l _ (j + 1) (by simp; omega)]
    have hlt : off + j < cs.toList.length := by simp; omega
    have e1 : List.take (off + (j + 1)) (cs.setIfInBounds (off + j) c).toList = List.take (off + j) cs.toList ++ [c] := by
      rw [Array.toList_setIfInBounds, ← Nat.add_assoc, List.take_add_one]
      rw [List.getElem?_set_self hlt]
      simp [List.take_set_of_le]
    have e2 : List.drop (off + (j + 1) + l.length) (cs.setIfInBounds (off + j) c).toList = List.drop (off + j + (c :: l).length) cs.toList := by
      rw [Array.toList_setIfInBounds, List.drop_set_of_lt (by omega)]
      congr 1
      simp; omega
    rw [e1, e2]
    simp

inductive Prs {α β : Type} (p : α → β → Prop) : List α → List β → Prop
  | nil : Prs p [] []
  | cons {x y l m} : p x y → Prs p l m → Prs p (x :: l) (y :: m)

theorem mapM_prs {α β : Type} {f : α → Option β} : ∀ {l : List α} {m : List β}, l.mapM f = some m → Prs (fun x y => f x = some y) l m
  | [], m, h => by simp at h; subst h; exact .nil
  | x :: l, m, h => by
    rw [List.mapM_cons] at h
    cases hx : f x with
    | none => rw [hx] at h; cases h
    | some y =>
      cases hl : l.mapM f with
      | none => rw [hx, hl] at h; cases h
      | some m' => rw [hx, hl] at h; cases h; exact .cons hx (mapM_prs hl)

theorem Prs.imp {α β : Type} {p q : α → β → Prop} (h : ∀ x y, p x y → q x y) : ∀ {l : List α} {m : List β}, Prs p l m → Prs q l m
  | _, _, .nil => .nil
  | _, _, .cons a b => .cons (h _ _ a) (b.imp h)

theorem fill_ok {place : Nat → Option (Nat × Nat)} {K : SC → Prop} {tm : Tm} (ht : DT T tm a.tmps) : ∀ (ps : List (Nat × Operand)) (l : List (Nat × AK × Operand)) (z : SC) (cells : Array Value), DC T z cells.toList → vcBld tm l z K →
    Prs (fun (p : Nat × Operand) (q : Nat × AK × Operand) => p.2 = q.2.2 ∧ ∀ v, KOk q.2.1 v → ∃ size, place p.1 = some (q.1, size) ∧ v.cells.size = size) ps l →
    ∃ cells' z', Instr.fill place cells (ps.map fun p => (p.1, a.eval p.2)) = some cells' ∧ DC T z' cells'.toList ∧ K z'
  | [], _, z, cells, hd, h, .nil => ⟨cells, z, rfl, hd, h⟩
  | p :: ps, q :: l, z, cells, hd, h, .cons hp hr => by
    obtain ⟨off, k, x⟩ := q
    obtain ⟨i, y⟩ := p
    obtain ⟨rfl, hp⟩ := hp
    simp only [vcBld] at h
    obtain ⟨s', h1, h2, h3, h4⟩ := stC_ok hd (ev_ok ht y) h
    obtain ⟨size, e1, e2⟩ := hp _ h4
    simp only [List.map_cons, Instr.fill, e1]
    have hlen : (vcells (a.eval y)).length = (a.eval y).cells.size := by simp [vcells]
    have h3 : off + (a.eval y).cells.size ≤ cells.size := by rw [← hlen, ← Array.length_toList (xs := cells)]; exact h3
    rw [if_neg (by simp [e2]; omega)]
    have hz : (a.eval y).cells.zipIdx.foldl (fun cs (c, j) => cs.setIfInBounds (off + j) c) cells = ((vcells (a.eval y)).zipIdx 0).foldl (fun cs (c, j) => cs.setIfInBounds (off + j) c) cells := by
      rw [← Array.foldl_toList]; simp [vcells]
    have hfs := fold_set off (vcells (a.eval y)) cells 0 (by rw [hlen]; omega)
    simp only [Nat.add_zero] at hfs
    rw [← hz] at hfs
    exact fill_ok ht ps l s' _ (by rw [hfs]; exact h2) h1 hr


theorem zeroSC_inv {t : TypeId} {z : SC} (hz : zeroSC P t = some z) : ∃ i v, P.info? t = some i ∧ i.zero = some v ∧ DC T z v.cells.toList := by
  unfold zeroSC at hz
  cases hi : P.info? t with
  | none => rw [hi] at hz; simp at hz
  | some i =>
    cases hzr : i.zero with
    | none => rw [hi] at hz; simp [hzr] at hz
    | some v =>
      rw [hi] at hz
      simp [hzr] at hz
      exact ⟨i, v, rfl, hzr, mkSC_ok hz⟩

theorem e_bld (t : TypeId) (ps : Array (Nat × Operand)) (z : SC) (l : List (Nat × AK × Operand)) (ho : o.op = .build t ps) (hk : trK P (.build t ps) = .bld z l) (ht : DT T tm a.tmps) (hdh : DH P w R T H) {K : SV → RO → List SObj → Prop}
    (h : vcBld tm l z fun cs => K (.agg cs) R H) : EffOk P T a o w R K := by
  have fin : ∀ cells z', P.built t (ps.toList.map fun p => (p.1, a.eval p.2)) = some cells → DC T z' cells.toList → K (.agg z') R H → EffOk P T a o w R K := by
    intro cells z' h1 h2 h3
    have hr := run_build (P := P) w t (ps.map fun p => (p.1, a.eval p.2)) cells (by simpa using h1)
    refine ⟨.value (.agg cells), w, .agg cells, _, R, H, [], ?_, .inl rfl, .agg (by rw [List.append_nil]; exact h2), by rw [List.append_nil]; exact hdh, .refl _ _, .refl _ _ _, h3⟩
    simp [execOp, ho, Sem.run_bind, hr]
  simp only [trK] at hk
  split at hk
  · rename_i z0 fs hz hu
    split at hk
    · rename_i l0 pl hl hpl
      cases hk
      obtain ⟨i, v, hi, hv, hd⟩ := zeroSC_inv (T := T) hz
      obtain ⟨cells, z', h1, h2, h3⟩ := fill_ok (a := a) (place := fun j => pl.toArray[j]?) ht ps.toList l z v.cells hd h ((mapM_prs hl).imp fun x y hxy => by
        obtain ⟨f, hf, hxy⟩ := Option.bind_eq_some_iff.1 hxy
        cases hk : trAK P f.type with
        | none => rw [hk] at hxy; cases hxy
        | some k =>
          rw [hk] at hxy
          cases hxy
          refine ⟨rfl, fun v hv => ?_⟩
          obtain ⟨i, hi, hsz⟩ := hv.size hk
          refine ⟨i.size, ?_, hsz⟩
          have := mapM_prs hpl
          have key : ∀ {l : List Field} {m : List (Nat × Nat)}, Prs (fun f y => ((P.info? f.type).map fun i => (f.offset, i.size)) = some y) l m → ∀ (n : Nat) (f : Field), l[n]? = some f → ∃ i, P.info? f.type = some i ∧ m[n]? = some (f.offset, i.size) := by
            intro l m h
            induction h with
            | nil => simp
            | cons hx _ ih =>
              rename_i x y l m _
              intro n f hf
              cases n with
              | zero =>
                simp at hf; subst hf
                cases hi : P.info? x.type with
                | none => rw [hi] at hx; cases hx
                | some i => rw [hi] at hx; cases hx; exact ⟨i, rfl, rfl⟩
              | succ n => simpa using ih n f (by simpa using hf)
          obtain ⟨i', hi', e⟩ := key this x.1 f (by simpa using hf)
          rw [hi] at hi'; cases hi'
          simpa using e)
      refine fin cells z' ?_ h2 h3
      simp only [Program.built, hi, hu, hv, hpl]
      exact h1
    · cases hk
  · rename_i z0 n e hz hu
    split at hk
    · rename_i ie k hie hke
      cases hk
      obtain ⟨i, v, hi, hv, hd⟩ := zeroSC_inv (T := T) hz
      have hprs : ∀ l : List (Nat × Operand), Prs (fun (p : Nat × Operand) (q : Nat × AK × Operand) => p.2 = q.2.2 ∧ ∀ v, KOk q.2.1 v → ∃ size, (fun j => some (j * ie.size, ie.size)) p.1 = some (q.1, size) ∧ v.cells.size = size) l (l.map fun (j, x) => (j * ie.size, k, x)) := by
        intro l
        induction l with
        | nil => exact .nil
        | cons p l ih =>
          refine .cons ⟨rfl, fun v hv => ⟨ie.size, rfl, ?_⟩⟩ ih
          obtain ⟨i', hi', hsz⟩ := hv.size hke
          rw [hie] at hi'; cases hi'
          exact hsz
      obtain ⟨cells, z', h1, h2, h3⟩ := fill_ok (a := a) (place := fun j => some (j * ie.size, ie.size)) ht ps.toList (ps.toList.map fun (j, x) => (j * ie.size, k, x)) z v.cells hd h (hprs ps.toList)
      refine fin cells z' ?_ h2 h3
      simp only [Program.built, hi, hu, hv, hie]
      exact h1
    · cases hk
  · cases hk


theorem fill_row {k : AK} {wd : Nat} : ∀ (ps : List (Nat × Value)) (n : Nat) (cells : Array Value), (∀ j p, ps[j]? = some p → p.1 = n + j) → (∀ p ∈ ps, KOk k p.2 ∧ p.2.cells.size = wd) → (n + ps.length) * wd ≤ cells.size →
    ∃ cells', Instr.fill (fun i => some (i * wd, wd)) cells ps = some cells' ∧ cells'.toList = cells.toList.take (n * wd) ++ (ps.flatMap fun p => vcells p.2) ++ cells.toList.drop ((n + ps.length) * wd)
  | [], n, cells, _, _, _ => ⟨cells, rfl, by simp⟩
  | (i, v) :: ps, n, cells, ho, hk, hl => by
    have hi : i = n := by simpa using ho 0 (i, v) rfl
    subst hi
    obtain ⟨h1, h2⟩ := hk (i, v) (by simp)
    simp only at h1 h2
    simp only [Instr.fill]
    have hw : (i + 1) * wd = i * wd + wd := by rw [Nat.add_mul, Nat.one_mul]
    have hb : i * wd + wd ≤ cells.size := by
      have : (i + 1) * wd ≤ (i + ((i, v) :: ps).length) * wd := Nat.mul_le_mul_right _ (by simp)
      omega
    rw [if_neg (by simp [h2]; omega)]
    have hz : v.cells.zipIdx.foldl (fun cs (c, j) => cs.setIfInBounds (i * wd + j) c) cells = ((vcells v).zipIdx 0).foldl (fun cs (c, j) => cs.setIfInBounds (i * wd + j) c) cells := by
      rw [← Array.foldl_toList]; simp [vcells]
    have hvl : (vcells v).length = wd := by simp [vcells, h2]
    have hfs := fold_set (i * wd) (vcells v) cells 0 (by rw [hvl]; omega)
    simp only [Nat.add_zero, hvl] at hfs
    rw [← hz] at hfs
    generalize hC : (v.cells.zipIdx.foldl (fun cs (c, j) => cs.setIfInBounds (i * wd + j) c) cells) = C at hfs
    have hCs : C.size = cells.size := by
      rw [← Array.length_toList, hfs]; simp [hvl]; omega
    obtain ⟨cells', e1, e2⟩ := fill_row (k := k) ps (i + 1) C (fun j p hp => by have := ho (j + 1) p (by simpa using hp); omega) (fun p hp => hk p (by simp [hp])) (by rw [hCs]; simp at hl; rw [Nat.add_assoc, Nat.add_comm 1]; exact hl)
    refine ⟨cells', e1, ?_⟩
    rw [e2, hfs, hw]
    have t1 : List.take (i * wd + wd) (List.take (i * wd) cells.toList ++ vcells v ++ List.drop (i * wd + wd) cells.toList) = List.take (i * wd) cells.toList ++ vcells v := by
      rw [List.take_append_of_le_length (by simp [hvl]; omega), List.take_of_length_le (by simp [hvl]; omega)]
    have t2 : List.drop ((i + 1 + ps.length) * wd) (List.take (i * wd) cells.toList ++ vcells v ++ List.drop (i * wd + wd) cells.toList) = List.drop ((i + ((i, v) :: ps).length) * wd) cells.toList := by
      have e3 : (i + 1 + ps.length) * wd = (i * wd + wd) + ps.length * wd := by rw [Nat.add_mul, hw]
      have e4 : (i + ((i, v) :: ps).length) * wd = (i * wd + wd) + ps.length * wd := by simp [Nat.add_mul]; omega
      rw [e3, e4, List.drop_append]
      have e5 : (List.take (i * wd) cells.toList ++ vcells v).length = i * wd + wd := by simp [hvl]; omega
      rw [e5, List.drop_eq_nil_of_le (by rw [e5]; omega), List.nil_append, Nat.add_sub_cancel_left, List.drop_drop]
    rw [t1, t2]
    simp

theorem bufEl_ok {k : AK} {x : SV} {v v' : Value} (hx : DV T x v) (h : bufEl k x = some v') : v' = v ∧ (KOk k v → EOk (ksz k) v) := by
  have raw : ∀ {cs : SC} {l m : List Value}, DC T cs l → rawCells cs = some m → m = l := by
    intro cs
    induction cs using SC.rec (motive_1 := fun _ => True) with
    | nil => intro l m hd hm; cases hd; simp [rawCells] at hm; exact hm
    | cons k v r _ ih =>
      intro l m hd hm
      simp only [rawCells] at hm
      split at hm
      · rename_i x
        cases hr : rawCells r with
        | none => rw [hr] at hm; cases hm
        | some m' =>
          rw [hr] at hm; cases hm
          cases hd with
          | one p q t => cases p; rw [ih t hr]
          | many p => exact absurd rfl p
      · cases hm
    | _ => trivial
  cases k with
  | sc =>
    simp only [bufEl] at h
    split at h
    · cases h; exact ⟨(raw_inv hx).symm, fun hk => ⟨fun _ => hk, fun hn => absurd rfl hn⟩⟩
    · cases h
  | ag n ws =>
    simp only [bufEl] at h
    cases hb : Nat.beq n 1 with
    | true => rw [hb] at h; cases h
    | false =>
      rw [hb] at h
      have hn : n ≠ 1 := fun e => by subst e; cases hb
      refine ⟨?_, fun ⟨arr, e, h1, h2⟩ => ⟨fun e' => absurd e' hn, fun _ => ⟨arr, e, h1, h2⟩⟩⟩
      simp only at h
      split at h
      · cases h; exact (raw_inv hx).symm
      · rename_i cs
        obtain ⟨arr, rfl, hd⟩ := agg_inv hx
        cases hr : rawCells cs with
        | none => rw [hr] at h; cases h
        | some l => rw [hr] at h; cases h; rw [raw hd hr]
      · cases h

theorem bufEls_ok {k : AK} : ∀ {xs : List SV} {vs es : List Value}, DL T (toSC xs) vs → bufEls k xs = some es → (∀ v ∈ vs, KOk k v) → es = vs ∧ ∀ v ∈ vs, EOk (ksz k) v
  | [], _, es, h, he, _ => by cases h; simp [bufEls] at he; subst he; simp
  | x :: xs, _, es, h, he, hk => by
    cases h with
    | cons p q =>
      simp only [bufEls] at he
      split at he
      · rename_i v hv
        split at he
        · rename_i l hl
          cases he
          obtain ⟨e1, e2⟩ := bufEl_ok p hv
          obtain ⟨e3, e4⟩ := bufEls_ok q hl (fun v hv => hk v (by simp [hv]))
          subst e1 e3
          refine ⟨rfl, fun v hv => ?_⟩
          rcases List.mem_cons.1 hv with rfl | hv
          · exact e2 (hk _ (by simp))
          · exact e4 v hv
        · cases he
      · cases he

theorem vcBsl_ok {k : AK} : ∀ {xs : List SV} {vs : List Value} {K : SC → Prop}, DL T (toSC xs) vs → vcBsl k xs K → ∃ cs, DC T cs (vs.flatMap vcells) ∧ (∀ v ∈ vs, KOk k v) ∧ K cs
  | [], _, K, h, hk => by cases h; exact ⟨.nil, .nil, by simp, hk⟩
  | x :: xs, _, K, h, hk => by
    cases h with
    | cons p q =>
      simp only [vcBsl] at hk
      split at hk
      · split at hk
        · rename_i hs
          obtain ⟨cs, h1, h2, h3⟩ := vcBsl_ok q hk
          have hsc := svScal_ok p hs
          refine ⟨_, by simpa [vcells_scal hsc] using DC.one p hsc h1, fun v hv => ?_, h3⟩
          rcases List.mem_cons.1 hv with rfl | hv
          · exact hsc
          · exact h2 v hv
        · exact hk.elim
      · rename_i n ws
        obtain ⟨c, arr, rfl, e1, e2, e3⟩ := chunks_ok p hk
        obtain ⟨cs, h1, h2, h3⟩ := vcBsl_ok q e3
        refine ⟨_, by simpa [vcells, Value.cells] using DC.app e2 h1, fun v hv => ?_, h3⟩
        rcases List.mem_cons.1 hv with rfl | hv
        · exact ⟨arr, rfl, e1, e2.scal⟩
        · exact h2 v hv

theorem inOrder_ok : ∀ {ps : List (Nat × Operand)} {n : Nat}, inOrder ps n = true → ∀ j p, ps[j]? = some p → p.1 = n + j
  | [], n, _, j, p, h => by simp at h
  | (i, x) :: r, n, h, j, p, hp => by
    simp only [inOrder] at h
    cases hb : Nat.beq i n with
    | false => rw [hb] at h; cases h
    | true =>
      rw [hb] at h
      have hb := Nat.eq_of_beq_eq_true hb
      cases j with
      | zero => simp at hp; subst hp; simpa using hb
      | succ j => have := inOrder_ok h j p (by simpa using hp); omega

theorem psnd_eq : ∀ ps : List (Nat × Operand), psnd ps = ps.map (·.2)
  | [] => rfl
  | (_, x) :: r => by simp [psnd, psnd_eq r]
theorem plen_eq : ∀ ps : List (Nat × Operand), plen ps = ps.length
  | [] => rfl
  | (_, x) :: r => by simp [plen, plen_eq r]

theorem e_bsl (t : TypeId) (n : Nat) (ps : Array (Nat × Operand)) (e : TypeId) (k : AK) (z : Value) (ho : o.op = .buildSlice t n ps) (hk : trK P (.buildSlice t n ps) = .bsl e k n z ps.toList) (ht : DT T tm a.tmps) (hdh : DH P w R T H)
    {K : SV → RO → List SObj → Prop} (h : vcEff (.bsl e k n z ps.toList) tm R H K) : EffOk P T a o w R K := by
  simp only [vcEff] at h
  split at h
  · rename_i q1 q2
    have q1 := Nat.eq_of_beq_eq_true q1
    rw [plen_eq] at q1
    simp only [trK] at hk
    split at hk
    · rename_i e' hu
      split at hk
      · rename_i i k' hi hke
        split at hk
        · rename_i z' hz
          split at hk
          · rename_i hsm
            cases hk
            obtain ⟨cs, h1, h2, h3⟩ := vcBsl_ok (evs_ok ht (psnd ps.toList)) h
            rw [psnd_eq] at h1 h2
            have hksz : ∀ v, KOk k v → v.cells.size = i.size := fun v hv => by
              obtain ⟨i', hi', hs⟩ := hv.size hke; rw [hi] at hi'; cases hi'; exact hs
            have hkk : ksz k = i.size := by
              cases k with
              | sc => obtain ⟨i', d, e1, e2, e3, e4⟩ := trAK_sc hke; rw [hi] at e1; cases e1; exact e4.symm
              | ag m ws => obtain ⟨i', d, e1, e2, e3, e4⟩ := trAK_ag hke; rw [hi] at e1; cases e1; exact e4.symm
            let vs := (ps.toList.map (·.2)).map a.eval
            have hvl : vs.length = n := by simp [vs, ← q1]
            -- the row
            have hrow : ∀ (C : Array Value), C.size = n * i.size → ∃ cells', Instr.fill (fun j => some (j * i.size, i.size)) C (ps.map fun p => (p.1, a.eval p.2)).toList = some cells' ∧ cells'.toList = vs.flatMap vcells := by
              intro C hC
              obtain ⟨cells', e1, e2⟩ := fill_row (k := k) (wd := i.size) (ps.map fun p => (p.1, a.eval p.2)).toList 0 C (fun j p hp => by
                  simp at hp
                  obtain ⟨p1, p2, hp', rfl⟩ := hp
                  simpa using inOrder_ok q2 j (p1, p2) (by simpa using hp')) (fun p hp => by
                  simp at hp
                  obtain ⟨p1, p2, hp', rfl⟩ := hp
                  have := h2 (a.eval p2) (by simp; exact ⟨p1, p2, hp', rfl⟩)
                  exact ⟨this, hksz _ this⟩) (by simp [q1, hC])
              refine ⟨cells', e1, ?_⟩
              rw [e2]
              simp only [Nat.zero_mul, List.take_zero, List.nil_append, Nat.zero_add]
              have : List.drop ((ps.map fun p => (p.1, a.eval p.2)).toList.length * i.size) C.toList = [] := List.drop_eq_nil_of_le (by simp [q1, hC])
              rw [this, List.append_nil]
              simp [vs, List.flatMap_map]
            have hrun : ∃ cells, cells.toList = vs.flatMap vcells ∧ (execOp a.eval o).run P w = .ok (.value (.slice (some ⟨w.heap.size, 0, none⟩) n n)) (w.alloc (.cells cells e)) := by
              by_cases hpos : n * i.size = 0
              · obtain ⟨cells, e1, e2⟩ := hrow #[] (by simp [hpos])
                refine ⟨cells, e2, ?_⟩
                have : (Instr.buildSlice t n (ps.map fun p => (p.1, a.eval p.2))).run P w = .ok (.slice (some ⟨w.heap.size, 0, none⟩) n n) (w.alloc (.cells cells e)) := by
                  simp only [Instr.buildSlice, Sem.run_bind, run_underlying hu, Result.andThen_ok, sizeOf, typeInfo, hi]
                  simp at e1
                  have e0 : Array.map (fun _ => (default : Value)) (Array.range 0) = #[] := by simp
                  simp [hpos, newRow, sizeOf, typeInfo, hi]
                  rw [e0, e1]
                  simp
                simp [execOp, ho, Sem.run_bind, this]
              · obtain ⟨cells, e1, e2⟩ := hrow ((Array.range (n * i.size)).map (z.cells[· % z.cells.size]!)) (by simp)
                refine ⟨cells, e2, ?_⟩
                have := run_buildSlice (P := P) w t e n (ps.map fun p => (p.1, a.eval p.2)) cells i z hu hi hz (by omega) hpos e1
                simp [execOp, ho, Sem.run_bind, this]
            obtain ⟨cells, hc, hrun⟩ := hrun
            have hsz : cells.size = n * i.size := by
              rw [← Array.length_toList, hc]
              have : ∀ l : List Value, (∀ v ∈ l, KOk k v) → (l.flatMap vcells).length = l.length * i.size := by
                intro l
                induction l with
                | nil => simp
                | cons x r ih =>
                  intro hl
                  have hx : (vcells x).length = i.size := by simp [vcells, hksz x (hl x (by simp))]
                  simp [hx, ih (fun v hv => hl v (by simp [hv])), Nat.add_mul]; omega
              rw [this vs h2, hvl]
            split at h3
            · rename_i es hes
              obtain ⟨e1, e2⟩ := bufEls_ok (evs_ok ht (psnd ps.toList)) hes (by rw [psnd_eq]; exact h2)
              rw [psnd_eq] at e1 e2
              obtain ⟨g1, g2, g3⟩ := alloc_ws w (.cells cells e)
              have hg : (T ++ [Blk.at w.heap.size 0 cells.size])[hlen H]? = some (.at w.heap.size 0 cells.size) := by
                rw [hlen_eq, ← hdh.len, List.getElem?_append_right (Nat.le_refl _)]; simp
              have hdv := DV.sl (T := T ++ [Blk.at w.heap.size 0 cells.size]) (n := hlen H) (off := 0) (i := 0) (w := ksz k) (len := n) (cap := n) hg (Nat.le_refl _) (by rw [hsz, hkk]; simp)
              simp only [Nat.add_zero, Nat.zero_mul] at hdv
              refine ⟨_, _, _, _, R, _, _, hrun, .inl rfl, hdv, hdh.push (x := .buf es (ksz k) e) g1 g2 (.inr ⟨w.heap.size, 0, cells, [], [], by rw [← hlen_eq]; exact hg, g3, ?_, rfl, ?_⟩), .push rfl rfl rfl (Nat.le_of_lt g1) g2, .refl _ _ _, h3⟩
              · rw [hc, e1]; simp [vs]
              · rw [e1]; exact e2
            · obtain ⟨g1, g2, g3⟩ := new_cells (e := e) (arr := cells) hdh (cs := cs) (by rw [hc]; exact h1)
              have hdv := DV.sl (T := T ++ [Blk.at w.heap.size 0 cells.size]) (n := hlen H) (off := 0) (i := 0) (w := ksz k) (len := n) (cap := n) g3 (Nat.le_refl _) (by rw [hsz, hkk]; simp)
              simp only [Nat.add_zero, Nat.zero_mul] at hdv
              exact ⟨_, _, _, _, R, _, _, hrun, .inl rfl, hdv, g1, g2, .refl _ _ _, h3⟩
          · cases hk
        · cases hk
      · cases hk
    · cases hk
  · exact h.elim

end Go.SX

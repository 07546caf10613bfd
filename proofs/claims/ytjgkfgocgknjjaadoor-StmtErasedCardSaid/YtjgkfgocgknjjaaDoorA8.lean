/- The abstract machine, part 8: arithmetic, make, literals of slices, the rest. -/
import Derived.Test.YtjgkfgocgknjjaaDoorA7
set_option linter.unusedVariables false
set_option linter.unusedSimpArgs false
namespace Go.Proofs.YtjgkfgocgknjjaaDoor.Abs
open Go Go.RowKit

def evBin (op : BinOp) (x y : AV) : Option AV :=
  match x, y with
  | .int k a, .int k' b =>
    match op with
    | .shl => if 0 ≤ b then some (.int k (k.wrap (a * 2 ^ min b.toNat k.bits))) else none
    | .shr => if 0 ≤ b then some (.int k (a.fdiv (2 ^ min b.toNat k.bits))) else none
    | op =>
      if k = k' then
        match op with
        | .add => some (.int k (k.wrap (a + b)))
        | .sub => some (.int k (k.wrap (a - b)))
        | .mul => some (.int k (k.wrap (a * b)))
        | .quo => if b = 0 then none else some (.int k (k.wrap (a.tdiv b)))
        | .rem => if b = 0 then none else some (.int k (a.tmod b))
        | .and => some (.int k (k.wrap (BitVec.ofInt k.bits a &&& BitVec.ofInt k.bits b).toNat))
        | .or => some (.int k (k.wrap (BitVec.ofInt k.bits a ||| BitVec.ofInt k.bits b).toNat))
        | .xor => some (.int k (k.wrap (BitVec.ofInt k.bits a ^^^ BitVec.ofInt k.bits b).toNat))
        | .andNot => some (.int k (k.wrap (BitVec.ofInt k.bits a &&& ~~~BitVec.ofInt k.bits b).toNat))
        | .eql => some (.bool (decide (a = b)))
        | .neq => some (.bool (!decide (a = b)))
        | .lss => some (.bool (decide (a < b)))
        | .leq => some (.bool (decide (a ≤ b)))
        | .gtr => some (.bool (decide (a > b)))
        | .geq => some (.bool (decide (a ≥ b)))
        | _ => none
      else none
  | .str a, .str b =>
    match op with
    | .add => if ((a.size + b.size : Nat) : Int) > IntKind.i64.max then none else some (.str (a ++ b))
    | .eql => some (.bool (a.toList == b.toList))
    | .neq => some (.bool (!(a.toList == b.toList)))
    | .lss => some (.bool (Op.bytesLess a.toList b.toList))
    | .leq => some (.bool (Op.bytesLess a.toList b.toList || (a.toList == b.toList)))
    | .gtr => some (.bool (!(Op.bytesLess a.toList b.toList || (a.toList == b.toList))))
    | .geq => some (.bool (!Op.bytesLess a.toList b.toList))
    | _ => none
  | _, _ => none
theorem ok_bin {P : Program} {w : World} {G : Gh} {op : BinOp} {t : TypeId} {ox oy : Operand} {v u : Value} {x y z : AV} (hv : R G w v x) (hu : R G w u y) (h : evBin op x y = some z) :
    ∃ r, (do eqGuard op t ox oy v u; binOp op t v u : Sem Value).run P w = .ok r w ∧ R G w r z := by
  unfold evBin at h
  split at h
  · rename_i k a k' b
    cases hv; cases hu
    have hg : (eqGuard op t ox oy (.int k a) (.int k' b)).run P w = .ok () w := by
      unfold eqGuard
      split <;> simp
    split at h
    · split at h
      · cases h
        rename_i h0
        have hn : ¬ b < 0 := by omega
        exact ⟨_, by simp [hg, binOp, Op.shift, hn], .int _ _⟩
      · cases h
    · split at h
      · cases h
        rename_i h0
        have hn : ¬ b < 0 := by omega
        exact ⟨_, by simp [hg, binOp, Op.shift, hn], .int _ _⟩
      · cases h
    · split at h
      case isFalse => cases h
      rename_i hk
      subst hk
      split at h <;> first
        | (cases h; refine ⟨_, ?_, R.int _ _⟩; simp only [Sem.run_bind, hg, Result.andThen_ok, binOp, Op.intArith, Op.intBits, ne_eq, not_true_eq_false, if_false]; rfl)
        | (cases h; refine ⟨_, ?_, R.bool _⟩; simp only [Sem.run_bind, hg, Result.andThen_ok, binOp, Op.intCmp, ne_eq, not_true_eq_false, if_false]; rfl)
        | (split at h
           · cases h
           · rename_i hb; cases h; refine ⟨_, ?_, R.int _ _⟩; simp only [Sem.run_bind, hg, Result.andThen_ok, binOp, Op.intDiv, ne_eq, not_true_eq_false, if_false]; rw [if_neg hb]; rfl)
        | cases h
  · rename_i a b
    cases hv; cases hu
    have hg : (eqGuard op t ox oy (.string a) (.string b)).run P w = .ok () w := by
      unfold eqGuard
      split <;> simp
    split at h <;> first
      | (cases h; refine ⟨_, ?_, R.bool _⟩; simp only [Sem.run_bind, hg, Result.andThen_ok, binOp, Op.stringOp]; rfl)
      | (split at h
         · cases h
         · rename_i hb; cases h; refine ⟨_, ?_, R.str _⟩; simp only [Sem.run_bind, hg, Result.andThen_ok, binOp, Op.stringOp]; rw [if_neg hb]; rfl)
      | cases h
  · cases h

/-- Truths held against each other. -/
def evBeq (neg : Bool) (x y : AV) : Option AV :=
  match x, y with
  | .bool a, .bool b => some (.bool (if neg then !(a == b) else (a == b)))
  | _, _ => none
theorem ok_beq {P : Program} {w : World} {G : Gh} {neg : Bool} {t : TypeId} (ht : P.underlying t = some .bool) {ox oy : Operand} {v u : Value} {x y z : AV} (hv : R G w v x) (hu : R G w u y) (h : evBeq neg x y = some z) :
    ∃ r, (do eqGuard (if neg then .neq else .eql) t ox oy v u; binOp (if neg then .neq else .eql) t v u : Sem Value).run P w = .ok r w ∧ R G w r z := by
  unfold evBeq at h
  split at h
  case h_2 => cases h
  rename_i a b
  cases hv; cases hu
  cases h
  have hg : ∀ op, (eqGuard op t ox oy (.bool a) (.bool b)).run P w = .ok () w := by
    intro op
    unfold eqGuard
    split <;> simp
  cases neg
  · exact ⟨_, by simp [hg, run_eql_bool (P := P) w t a b ht], .bool _⟩
  · exact ⟨_, by simp [hg, run_neq_bool (P := P) w t a b ht], .bool _⟩

def evUn (op : UnOp) (x : AV) : Option AV :=
  match op, x with
  | .neg, .int k n => some (.int k (k.wrap (0 - n)))
  | .not, .bool b => some (.bool (!b))
  | _, _ => none
theorem ok_un {P : Program} {w : World} {G : Gh} {op : UnOp} {v : Value} {x z : AV} (hv : R G w v x) (h : evUn op x = some z) : ∃ r, (Op.unary op v).run P w = .ok r w ∧ R G w r z := by
  unfold evUn at h
  split at h
  · cases h; cases hv; exact ⟨_, by simp [Op.unary, Op.intArith], .int _ _⟩
  · cases h; cases hv; exact ⟨_, by simp [Op.unary], .bool _⟩
  · cases h

def evConv (k : IntKind) (x : AV) : Option AV :=
  match x with
  | .int _ n => some (.int k (k.wrap n))
  | _ => none
theorem ok_conv {P : Program} {w : World} {G : Gh} {k : IntKind} {src dst : TypeId} (hs : (P.underlying src).isSome = true) (hd : P.underlying dst = some (.int k)) {v : Value} {x z : AV} (hv : R G w v x) (h : evConv k x = some z) : ∃ r, (convert src dst v).run P w = .ok r w ∧ R G w r z := by
  unfold evConv at h
  split at h
  case h_2 => cases h
  rename_i k0 n
  cases h; cases hv
  obtain ⟨d, hd'⟩ := Option.isSome_iff_exists.1 hs
  exact ⟨.int k (k.wrap n), by simp [convert, run_underlying hd', run_underlying hd, Conv.intToInt], .int _ _⟩

def evLen (x : AV) : Option AV :=
  match x with
  | .sl _ rows => some (.int .i64 rows.length)
  | .osl _ _ _ n _ => some (.int .i64 n)
  | .str s => some (.int .i64 s.size)
  | _ => none
theorem ok_len {P : Program} {w : World} {G : Gh} {t ty : TypeId} {isStr : Bool} (ht : if isStr then P.underlying t = some .string else ∃ e, P.underlying t = some (.slice e)) {v : Value} {x z : AV} (hv : R G w v x) (h : evLen x = some z) (hx : isStr = true ↔ ∃ s, x = .str s) :
    ∃ r, (Builtin.len_ #[t] ty #[v]).run P w = .ok r w ∧ R G w r z := by
  unfold evLen at h
  split at h
  · rename_i own rows
    cases h
    have hn : isStr = false := by cases isStr with | false => rfl | true => obtain ⟨s, hs⟩ := hx.1 rfl; cases hs
    rw [hn] at ht
    obtain ⟨e, hu⟩ := ht
    rcases sl_inv hv with ⟨rfl, rfl, _⟩ | ⟨ad, c, s, vs, rfl, _⟩
    · exact ⟨_, by simp [Builtin.len_, run_underlying hu, goInt], .int _ _⟩
    · exact ⟨_, by simp [Builtin.len_, run_underlying hu, goInt], .int _ _⟩
  · rename_i b g r n sz
    cases h
    have hn : isStr = false := by cases isStr with | false => rfl | true => obtain ⟨s, hs⟩ := hx.1 rfl; cases hs
    rw [hn] at ht
    obtain ⟨e, hu⟩ := ht
    obtain ⟨ad, c, rfl, _⟩ := osl_inv hv
    exact ⟨_, by simp [Builtin.len_, run_underlying hu, goInt], .int _ _⟩
  · rename_i s
    cases h
    cases hv
    rw [hx.2 ⟨s, rfl⟩] at ht
    exact ⟨_, by simp [Builtin.len_, run_underlying ht, goInt], .int _ _⟩
  · cases h

def evIdx (x i : AV) : Option AV :=
  match x, i with
  | .str s, .int _ n => if 0 ≤ n then (match s[n.toNat]? with | some b => some (.int .u8 b.toNat) | none => none) else none
  | _, _ => none
theorem ok_idx {P : Program} {w : World} {G : Gh} {t : TypeId} (ht : P.underlying t = some .string) {v u : Value} {x i z : AV} (hv : R G w v x) (hu : R G w u i) (h : evIdx x i = some z) : ∃ r, (Instr.index t v u).run P w = .ok r w ∧ R G w r z := by
  unfold evIdx at h
  split at h
  case h_2 => cases h
  rename_i s k n
  cases hv; cases hu
  split at h
  case isFalse => cases h
  rename_i h0
  split at h
  case h_2 => cases h
  rename_i b hb
  cases h
  exact ⟨_, by simp [Instr.index, asIntOf, run_underlying ht, h0, hb], .int _ _⟩

def evMM (isMax : Bool) (x y : AV) : Option AV :=
  match x, y with
  | .int k a, .int _ b => some (.int k (if isMax then (if b > a then b else a) else (if b < a then b else a)))
  | _, _ => none
theorem ok_mm {P : Program} {w : World} {G : Gh} {isMax : Bool} {ts : Array TypeId} {t : TypeId} {v u : Value} {x y z : AV} (hv : R G w v x) (hu : R G w u y) (h : evMM isMax x y = some z) :
    ∃ r, ((if isMax then Builtin.max_ ts t #[v, u] else Builtin.min_ ts t #[v, u])).run P w = .ok r w ∧ R G w r z := by
  unfold evMM at h
  split at h
  case h_2 => cases h
  rename_i k a k' b
  cases hv; cases hu; cases h
  cases isMax
  · exact ⟨_, by simp [run_min_int2], .int _ _⟩
  · exact ⟨_, by simp [run_max_int2], .int _ _⟩

/-! make([]T, n). -/
def mkA (g : Nat) (mu : Bool) (zero : List AV) (bytes : Nat) (l c : AV) (H : AHeap) : Option (AV × AHeap) :=
  match l, c with
  | .int _ l, .int _ c =>
    if 0 ≤ l ∧ l ≤ c ∧ (bytes : Int) * c ≤ 281474976710656 ∧ c ≤ 9223372036854775807 then
      if mu then some (.osl H.length g 0 l.toNat zero.length, H ++ [some (.rows g (List.replicate l.toNat zero))])
      else some (.sl (.tk H.length g) (List.replicate l.toNat zero), H ++ [some (.tail g zero.length)])
    else none
  | _, _ => none
theorem ok_make {P : Program} {w : World} {G : Gh} {H H' : AHeap} (hi : Inv G w H) {mu : Bool} {t e : TypeId} {zero : List AV} {i : TypeInfo} {z : Value} (hu : P.underlying t = some (.slice e)) (hinfo : P.info? e = some i) (hz : i.zero = some z) (hzero : constsOk z.cells.toList zero = true)
    (hsz : i.size = zero.length) (h0 : 0 < zero.length) {vl vc : Value} {l c r : AV} (hl : R G w vl l) (hc : R G w vc c) (h : mkA G.clock mu zero i.bytes l c H = some (r, H')) : OkV G w ((Instr.makeSlice t vl vc).run P w) r H' := by
  unfold mkA at h
  split at h
  case h_2 => cases h
  rename_i kl l kc c
  cases hl; cases hc
  split at h
  case isFalse => cases h
  rename_i hh
  obtain ⟨h1, h2, h3, h4⟩ := hh
  obtain ⟨hRL, hsing⟩ := consts_R (G := G) (w := w) hzero
  have hzs : z.cells.size = zero.length := by simpa using hRL.1
  have hrun := run_make (P := P) w t e i z hu hinfo hz kl kc l c h1 h2 h3 h4
  have hle : l.toNat ≤ c.toNat := by omega
  have hin : InCells G w (madeCells z.cells (c.toNat * i.size)).toList zero.length (List.replicate l.toNat zero) := by
    intro a j row x hr hj
    rw [List.getElem?_replicate] at hr
    split at hr
    case isFalse => cases hr
    rename_i ha
    cases hr
    have hjl : j < zero.length := (List.getElem?_eq_some_iff.1 hj).1
    obtain ⟨v, hv⟩ := get_ex (l := z.cells.toList) hRL.1 hj
    have hv' : z.cells[j]? = some v := by simpa using hv
    refine ⟨v, ?_, hRL.2 j v x hv hj⟩
    have hlt : a * zero.length + j < c.toNat * i.size := by
      rw [hsz]
      have : (a + 1) * zero.length ≤ c.toNat * zero.length := Nat.mul_le_mul_right _ (by omega)
      rw [Nat.add_mul] at this; omega
    have hmod : (a * zero.length + j) % z.cells.size = j := by rw [hzs, Nat.mul_comm, Nat.mul_add_mod]; exact Nat.mod_eq_of_lt hjl
    have hjz : j < z.cells.size := by omega
    simp only [madeCells, Array.toList_map, Array.toList_range, List.getElem?_map, List.getElem?_range hlt, Option.map_some, hmod]
    rw [getElem!_pos z.cells j hjz]
    rw [Array.getElem?_eq_getElem hjz] at hv'
    exact hv'
  have hlenr : (List.replicate l.toNat zero).length = l.toNat := List.length_replicate
  have hlens : ∀ row ∈ List.replicate l.toNat zero, row.length = zero.length := fun row hr => by rw [(List.mem_replicate.1 hr).2]
  have hsings : ∀ row ∈ List.replicate l.toNat zero, ∀ x ∈ row, x.single = true := fun row hr => by rw [(List.mem_replicate.1 hr).2]; exact hsing
  rw [hrun]
  split at h
  · cases h
    have := ok_newMut hi (madeCells z.cells (c.toNat * i.size)) e zero.length (List.replicate l.toNat zero) hlens hsings hin c.toNat (by rw [hlenr]; exact hle) (by rw [size_madeCells, hsz]; exact Nat.le_refl _) (b := H.length) (Nat.le_refl _)
    rw [Hput_new, hlenr] at this
    exact this
  · cases h
    have := ok_newTail hi (madeCells z.cells (c.toNat * i.size)) e zero.length (List.replicate l.toNat zero) hlens hsings hin c.toNat (by rw [hlenr]; exact hle) (by rw [size_madeCells, hsz]; exact Nat.le_refl _) (b := H.length) (Nat.le_refl _)
    rw [Hput_new, hlenr] at this
    exact this

/-! Literals of slices: all elements, in order. -/
def bsA (sz : Nat) (xs : List AV) (H : AHeap) : Option (AV × AHeap) :=
  if xs.all (fun x => x.okst && (x.cells.length == sz)) = true then some (.sl .full (xs.map AV.cells), H) else none

theorem fill_all {G : Gh} {w : World} {sz : Nat} : ∀ {vs : List Value} {xs : List AV} {k : Nat} {cells : Array Value}, RL G w vs xs → (∀ x ∈ xs, x.okst = true ∧ x.cells.length = sz) → (k + vs.length) * sz ≤ cells.size →
    ∃ cs, Instr.fill (fun i => some (i * sz, sz)) cells (vs.zipIdx k |>.map fun p => (p.2, p.1)) = some cs ∧ cs.size = cells.size ∧ (∀ o, o < k * sz → cs[o]? = cells[o]?) ∧
      ∀ (i j : Nat) (x y : AV), xs[i]? = some x → x.cells[j]? = some y → ∃ v, cs[(k + i) * sz + j]? = some v ∧ R G w v y
  | [], [], k, cells, _, _, _ => ⟨cells, rfl, rfl, fun _ _ => rfl, fun i j x y h => by simp at h⟩
  | [], x :: xs, k, cells, h, _, _ => by have := h.1; simp at this
  | v :: vs, [], k, cells, h, _, _ => by have := h.1; simp at this
  | v :: vs, x :: xs, k, cells, h, hx, hle => by
    have hR : R G w v x := h.2 0 v x (by simp) (by simp)
    have hrest : RL G w vs xs := ⟨by simpa using h.1, fun j v x a b => h.2 (j + 1) v x (by simpa using a) (by simpa using b)⟩
    obtain ⟨hok, hsz⟩ := hx x (by simp)
    obtain ⟨hRL, hsing⟩ := hR.cells hok
    have hvs : v.cells.size = sz := by have := hRL.1; simp at this; omega
    simp only [List.length_cons, Nat.add_mul] at hle
    have hfold := foldl_set (k * sz) v.cells.toList 0 cells (by simp [hvs]; omega)
    simp only [Nat.add_zero] at hfold
    have e : (v.cells.zipIdx.foldl (fun (cs : Array Value) (p : Value × Nat) => cs.setIfInBounds (k * sz + p.2) p.1) cells) = (v.cells.toList.zipIdx 0).foldl (fun (cs : Array Value) (p : Value × Nat) => cs.setIfInBounds (k * sz + p.2) p.1) cells := by
      rw [← Array.foldl_toList]; simp
    rw [← e] at hfold
    have hfit : k * sz + v.cells.toList.length ≤ cells.toList.length := by simp [hvs]; omega
    have hget : ∀ o, (v.cells.zipIdx.foldl (fun (cs : Array Value) (p : Value × Nat) => cs.setIfInBounds (k * sz + p.2) p.1) cells)[o]? =
        if o < k * sz then cells[o]? else if o < k * sz + sz then v.cells[o - k * sz]? else cells[o]? := by
      intro o
      rw [← Array.getElem?_toList, hfold, seg_get _ _ _ _ hfit]
      simp [hvs]
    have hsize : (v.cells.zipIdx.foldl (fun (cs : Array Value) (p : Value × Nat) => cs.setIfInBounds (k * sz + p.2) p.1) cells).size = cells.size := by
      rw [← Array.length_toList, hfold, seg_length _ _ _ hfit]; simp
    obtain ⟨cs, k1, k2, k3, k4⟩ := fill_all (k := k + 1) (cells := (v.cells.zipIdx.foldl (fun (cs : Array Value) (p : Value × Nat) => cs.setIfInBounds (k * sz + p.2) p.1) cells)) hrest (fun x hx' => hx x (by simp [hx'])) (by rw [hsize, Nat.add_mul, Nat.add_mul]; omega)
    refine ⟨cs, ?_, by rw [k2, hsize], ?_, ?_⟩
    · simp only [List.zipIdx_cons, List.map_cons, Instr.fill]
      rw [if_neg (by simp [hvs]; omega)]
      exact k1
    · intro o ho
      rw [k3 o (by rw [Nat.add_mul]; omega), hget, if_pos ho]
    · intro i j x' y hi hj
      cases i with
      | zero =>
        simp at hi; subst hi
        have hjl : j < sz := by rw [← hsz]; exact (List.getElem?_eq_some_iff.1 hj).1
        obtain ⟨u, hu⟩ := get_ex (l := v.cells.toList) hRL.1 hj
        refine ⟨u, ?_, hRL.2 j u y hu hj⟩
        rw [k3 _ (by simp only [Nat.add_mul, Nat.add_zero, Nat.one_mul]; omega), hget, if_neg (by rw [Nat.add_zero]; omega), if_pos (by rw [Nat.add_zero]; omega), Nat.add_zero, Nat.add_sub_cancel_left]
        simpa using hu
      | succ i =>
        obtain ⟨u, hu, hRu⟩ := k4 i j x' y (by simpa using hi) hj
        refine ⟨u, ?_, hRu⟩
        rw [show k + (i + 1) = k + 1 + i by omega]; exact hu

theorem ok_bslice {P : Program} {w : World} {G : Gh} {H H' : AHeap} (hi : Inv G w H) {t e : TypeId} {i : TypeInfo} {z : Value} (hu : P.underlying t = some (.slice e)) (hinfo : P.info? e = some i) (hz : i.zero = some z) {sz : Nat} (hsz : i.size = sz)
    {vs : List Value} {xs : List AV} (hRL : RL G w vs xs) (hbig : vs.length * sz ≤ 16777216) {r : AV} (h : bsA sz xs H = some (r, H')) :
    OkV G w ((Instr.buildSlice t vs.length ((vs.zipIdx 0).map fun p => (p.2, p.1)).toArray).run P w) r H' := by
  unfold bsA at h
  split at h
  case isFalse => cases h
  rename_i hall
  cases h
  have hx : ∀ x ∈ xs, x.okst = true ∧ x.cells.length = sz := by
    intro x hx
    rw [List.all_eq_true] at hall
    have := hall x hx
    simpa using this
  have hbig' : ¬ (16777216 < vs.length * sz) := by omega
  let z0 : Array Value := if vs.length * sz = 0 then #[] else z.cells
  obtain ⟨cs, k1, k2, _, k4⟩ := fill_all (k := 0) (cells := (Array.range (vs.length * sz)).map (z0[· % z0.size]!)) hRL hx (by simp)
  have hrun : (Instr.buildSlice t vs.length ((vs.zipIdx 0).map fun p => (p.2, p.1)).toArray).run P w = .ok (.slice (some ⟨w.heap.size, 0, none⟩) vs.length vs.length) (w.alloc (.cells cs e)) := by
    by_cases hn : vs.length * sz = 0
    · have hz0 : z0 = #[] := if_pos hn
      rw [hz0] at k1
      simp only [Instr.buildSlice, Sem.run_bind, run_underlying hu, Result.andThen_ok, sizeOf, typeInfo, run_program, hinfo, Sem.run_pure, hsz]
      rw [if_neg (by simpa using hbig')]
      simp only [hn, if_true, Sem.run_pure, Result.andThen_ok, Sem.run_bind]
      have hemp : ∀ f : Nat → Value, (Array.range 0).map f = #[] := fun f => by apply Array.ext'; simp
      rw [hn, hemp] at k1
      simp only [hemp, k1]
      simp [newRow]
    · have hz0 : z0 = z.cells := if_neg hn
      rw [hz0] at k1
      simp only [Instr.buildSlice, Sem.run_bind, run_underlying hu, Result.andThen_ok, sizeOf, typeInfo, run_program, hinfo, Sem.run_pure, hsz]
      rw [if_neg (by simpa using hbig')]
      simp only [hn, if_false, Sem.run_pure, Result.andThen_ok, Sem.run_bind, zeroValue, typeInfo, run_program, hinfo, hz]
      simp [k1, newRow]
  rw [hrun]
  have hlen : (xs.map AV.cells).length = vs.length := by rw [List.length_map, hRL.1]
  have := ok_newFz hi cs e sz (xs.map AV.cells) (by
      intro row hr
      obtain ⟨x, hxm, rfl⟩ := List.mem_map.1 hr
      exact (hx x hxm).2) (by
      intro row hr y hy
      obtain ⟨x, hxm, rfl⟩ := List.mem_map.1 hr
      obtain ⟨j, hj⟩ := mem_get hxm
      obtain ⟨v, hv⟩ := get_ex hRL.1 hj
      exact ((hRL.2 j v x hv hj).cells (hx x hxm).1).2 y hy) (by
      intro a j row y hr hj
      rw [List.getElem?_map] at hr
      cases hxa : xs[a]? with
      | none => simp [hxa] at hr
      | some x =>
        simp [hxa] at hr
        subst hr
        obtain ⟨v, hv, hR⟩ := k4 a j x y hxa hj
        exact ⟨v, by simpa using hv, hR⟩) (by rw [hlen, k2]; simp)
  rw [hlen] at this
  exact this
end Go.Proofs.YtjgkfgocgknjjaaDoor.Abs

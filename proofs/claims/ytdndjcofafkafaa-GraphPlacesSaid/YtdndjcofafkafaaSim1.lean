/- How the interpreter's values and memory stand to the model's: a relation of block numbers; lemmas of the tree by numbers. Nothing is claimed of the program here; no condition. -/
import Derived.Test.YtdndjcofafkafaaSim0
namespace Go.Proofs.Ytdndjcofafkafaa.Sim
set_option linter.unusedVariables false
set_option linter.unusedSimpArgs false
open Go Go.RowKit

theorem nbf {a b : Nat} (h : a ≠ b) : Nat.beq a b = false := by
  cases h' : Nat.beq a b
  · rfl
  · exact absurd (Nat.eq_of_beq_eq_true h') h

theorem Tr.get_eq {α : Type} (t : Tr α) (n : Nat) : t.get n = if n = 0 then t.top else if n % 2 = 1 then t.left.get ((n - 1) / 2) else t.right.get ((n - 1) / 2) := by
  cases t with
  | nil => simp [Tr.get, Tr.left, Tr.right, Tr.top]
  | node l v r =>
    simp only [Tr.get, Tr.left, Tr.right, Tr.top]
    by_cases h : n = 0
    · subst h; rfl
    · have : Nat.beq n 0 = false := nbf h
      rw [this, cond_false, if_neg h]
      by_cases h1 : n % 2 = 1
      · rw [if_pos h1, h1]; rfl
      · have : Nat.beq (n % 2) 1 = false := nbf h1
        rw [this, cond_false, if_neg h1]

theorem Tr.get_putF {α : Type} (f : Nat) : ∀ (t : Tr α) (n : Nat) (a : α) (m : Nat), n < f → (Tr.putF f t n a).get m = if m = n then some a else t.get m := by
  induction f with
  | zero => intro t n a m h; omega
  | succ f ih =>
    intro t n a m h
    simp only [Tr.putF]
    rw [Tr.get_eq t m]
    by_cases hn : n = 0
    · subst hn
      rw [Tr.get_eq]
      simp only [Nat.beq, cond_true, Tr.left, Tr.right, Tr.top]
      by_cases hm : m = 0 <;> simp [hm]
    · have hb : Nat.beq n 0 = false := nbf hn
      rw [hb, cond_false, Tr.get_eq]
      have hlt : (n - 1) / 2 < f := by omega
      by_cases hp : n % 2 = 1
      · rw [hp]
        simp only [Nat.beq, cond_true, Tr.left, Tr.right, Tr.top]
        rw [ih _ _ _ _ hlt]
        by_cases hm : m = 0
        · subst hm; rw [if_pos rfl, if_pos rfl, if_neg (by omega)]
        · rw [if_neg hm, if_neg hm]
          by_cases hq : m % 2 = 1
          · rw [if_pos hq, if_pos hq]
            by_cases he : m = n
            · subst he; simp
            · rw [if_neg he, if_neg (by omega)]
          · rw [if_neg hq, if_neg hq, if_neg (by intro e; subst e; exact hq hp)]
      · have hb2 : Nat.beq (n % 2) 1 = false := nbf hp
        rw [hb2]
        simp only [cond_false, Tr.left, Tr.right, Tr.top]
        rw [ih _ _ _ _ hlt]
        by_cases hm : m = 0
        · subst hm; rw [if_pos rfl, if_pos rfl, if_neg (by omega)]
        · rw [if_neg hm, if_neg hm]
          by_cases hq : m % 2 = 1
          · rw [if_pos hq, if_pos hq, if_neg (by intro e; subst e; exact hp hq)]
          · rw [if_neg hq, if_neg hq]
            by_cases he : m = n
            · subst he; simp
            · rw [if_neg he, if_neg (by omega)]

theorem Tr.get_put {α : Type} (t : Tr α) (n : Nat) (a : α) (m : Nat) : (t.put n a).get m = if m = n then some a else t.get m := Tr.get_putF _ _ _ _ _ (Nat.lt_succ_self _)

theorem Tr.get_put_self {α : Type} (t : Tr α) (n : Nat) (a : α) : (t.put n a).get n = some a := by rw [Tr.get_put, if_pos rfl]
theorem Tr.get_put_ne {α : Type} (t : Tr α) (n : Nat) (a : α) (m : Nat) (h : m ≠ n) : (t.put n a).get m = t.get m := by rw [Tr.get_put, if_neg h]

theorem Tr.get_ofFrom {α : Type} : ∀ (l : List α) (k : Nat) (t : Tr α) (m : Nat), (Tr.ofFrom l k t).get m = if k ≤ m ∧ m < k + l.length then l[m - k]? else t.get m := by
  intro l
  induction l with
  | nil => intro k t m; simp only [Tr.ofFrom, List.length_nil]; rw [if_neg (by omega)]
  | cons a l ih =>
    intro k t m
    simp only [Tr.ofFrom, List.length_cons]
    rw [ih, Tr.get_put]
    by_cases h : m = k
    · subst h
      rw [if_neg (by omega), if_pos rfl, if_pos (by omega)]
      simp
    · rw [if_neg h]
      by_cases h2 : k + 1 ≤ m ∧ m < k + 1 + l.length
      · rw [if_pos h2, if_pos (by omega)]
        obtain ⟨d, hd⟩ : ∃ d, m - k = d + 1 := ⟨m - k - 1, by omega⟩
        rw [hd, show m - (k + 1) = d by omega]
        simp
      · rw [if_neg h2, if_neg (by omega)]

theorem ofFrom_get {α : Type} (l : List α) (m : Nat) (a : α) (h : (Tr.ofFrom l 0 .nil).get m = some a) : l[m]? = some a := by
  rw [Tr.get_ofFrom] at h
  split at h
  · simpa using h
  · simp [Tr.get] at h

theorem nth_eq {α : Type} (l : List α) : ∀ n, nth l n = l[n]? := by
  induction l with
  | nil => intro n; cases n <;> simp [nth]
  | cons a l ih => intro n; cases n <;> simp [nth, ih]

theorem takeL_eq {α : Type} : ∀ (n : Nat) (l r : List α), takeL n l = some r → r.length = n ∧ ∀ i, i < n → r[i]? = l[i]? := by
  intro n
  induction n with
  | zero => intro l r h; cases l <;> simp only [takeL, Option.some.injEq] at h <;> subst h <;> simp
  | succ n ih =>
    intro l r h
    cases l with
    | nil => simp [takeL] at h
    | cons a l =>
      simp only [takeL, Option.map_eq_some_iff] at h
      obtain ⟨r', hr, rfl⟩ := h
      obtain ⟨h1, h2⟩ := ih l r' hr
      refine ⟨by simp [h1], fun i hi => ?_⟩
      cases i with
      | zero => simp
      | succ i => simpa using h2 i (by omega)

theorem dropL_eq {α : Type} : ∀ (n : Nat) (l : List α) (i : Nat), (dropL n l)[i]? = l[n + i]? := by
  intro n
  induction n with
  | zero => intro l i; cases l <;> simp [dropL]
  | succ n ih =>
    intro l i
    cases l with
    | nil => simp [dropL]
    | cons a l => simp only [dropL]; rw [ih, show n + 1 + i = (n + i) + 1 by omega]; simp

theorem cutL_eq {α : Type} {l r : List α} {o n : Nat} (h : cutL l o n = some r) : r.length = n ∧ ∀ i, i < n → r[i]? = l[o + i]? := by
  obtain ⟨h1, h2⟩ := takeL_eq _ _ _ h
  exact ⟨h1, fun i hi => (h2 i hi).trans (dropL_eq _ _ _)⟩

theorem setL_eq {α : Type} : ∀ (l : List α) (n : Nat) (b : α) (r : List α), setL l n b = some r → n < l.length ∧ r.length = l.length ∧ ∀ i, r[i]? = if i = n then some b else l[i]? := by
  intro l
  induction l with
  | nil => intro n b r h; cases n <;> simp [setL] at h
  | cons a l ih =>
    intro n b r h
    cases n with
    | zero =>
      simp only [setL, Option.some.injEq] at h
      subst h
      refine ⟨by simp, by simp, fun i => ?_⟩
      cases i <;> simp
    | succ n =>
      simp only [setL, Option.map_eq_some_iff] at h
      obtain ⟨r', hr, rfl⟩ := h
      obtain ⟨h0, h1, h2⟩ := ih n b r' hr
      refine ⟨by simp; omega, by simp [h1], fun i => ?_⟩
      cases i with
      | zero => simp
      | succ i => simp [h2]

theorem setsL_eq {α : Type} : ∀ (bs : List α) (l : List α) (n : Nat) (r : List α), setsL l n bs = some r →
    (bs = [] ∨ n + bs.length ≤ l.length) ∧ r.length = l.length ∧ ∀ i, r[i]? = if n ≤ i ∧ i < n + bs.length then bs[i - n]? else l[i]? := by
  intro bs
  induction bs with
  | nil =>
    intro l n r h
    simp only [setsL, Option.some.injEq] at h
    subst h
    exact ⟨.inl rfl, rfl, fun i => by rw [if_neg (by simp only [List.length_nil]; omega)]⟩
  | cons b bs ih =>
    intro l n r h
    simp only [setsL, Option.bind_eq_some_iff] at h
    obtain ⟨l', h1, h2⟩ := h
    obtain ⟨a0, a1, a2⟩ := setL_eq _ _ _ _ h1
    obtain ⟨b0, b1, b2⟩ := ih _ _ _ h2
    refine ⟨.inr ?_, by rw [b1, a1], fun i => ?_⟩
    · rcases b0 with rfl | b0
      · simp; omega
      · simp only [List.length_cons]; omega
    · rw [b2, a2]
      simp only [List.length_cons]
      by_cases hi : i = n
      · subst hi
        rw [if_neg (by omega), if_pos rfl, if_pos (by omega)]
        simp
      · rw [if_neg hi]
        by_cases hj : n + 1 ≤ i ∧ i < n + 1 + bs.length
        · rw [if_pos hj, if_pos (by omega)]
          obtain ⟨d, hd⟩ : ∃ d, i - n = d + 1 := ⟨i - n - 1, by omega⟩
          rw [hd, show i - (n + 1) = d by omega]
          simp
        · rw [if_neg hj, if_neg (by omega)]

theorem rep_length {α : Type} (l : List α) : ∀ n, (rep n l).length = n * l.length := by
  intro n
  induction n with
  | zero => simp [rep]
  | succ n ih => simp only [rep, List.length_append, ih, Nat.succ_mul]; omega

theorem rep_get {α : Type} (l : List α) (hl : l.length ≠ 0) : ∀ n i, i < n * l.length → (rep n l)[i]? = l[i % l.length]? := by
  intro n
  induction n with
  | zero => intro i h; omega
  | succ n ih =>
    intro i h
    simp only [rep]
    by_cases hi : i < l.length
    · rw [List.getElem?_append_left hi, Nat.mod_eq_of_lt hi]
    · rw [List.getElem?_append_right (by omega), ih _ (by rw [Nat.succ_mul] at h; omega)]
      congr 1
      exact (Nat.mod_eq_sub_mod (by omega)).symm

/-- Block and version, and: the concrete block, the displacement, how many cells it has. -/
abbrev Rel := Nat → Nat → Nat → Nat → Nat → Prop

inductive VR (env : Nat → Int) (r : Rel) : AV → Value → Prop where
  | unk (v : Value) : VR env r .unk v
  | bool (b : Bool) : VR env r (.bool b) (.bool b)
  | int (k : IntKind) (n : Int) : VR env r (.int k n) (.int k n)
  | sym (k : IntKind) (i : Nat) : VR env r (.sym k i) (.int k (env i))
  | str (s : ByteArray) : VR env r (.str s) (.string s)
  | nilp : VR env r .nilp (.pointer none)
  | ptr (b o v c d n : Nat) (h : r b v c d n) : VR env r (.ptr ⟨b, o, v⟩) (.pointer (some ⟨c, o + d, none⟩))
  | nils : VR env r .nils (.slice none 0 0)
  | slk (b o v c d n len cap : Nat) (h : r b v c d n) : VR env r (.sl ⟨b, o, v⟩ len (.known cap)) (.slice (some ⟨c, o + d, none⟩) len cap)
  | sll (b o v c d n len es lb cap : Nat) (h : r b v c d n) (hl : lb ≤ cap) (hn : o + d + cap * es ≤ n) : VR env r (.sl ⟨b, o, v⟩ len (.least es lb)) (.slice (some ⟨c, o + d, none⟩) len cap)
  | sld (a : Ref) (p : Addr) (cap : Nat) : VR env r (.sl a 0 .dead) (.slice (some p) 0 cap)
  | nilm : VR env r .nilm (.map none)
  | map (b c : Nat) (h : r b 0 c 0 0) : VR env r (.map b) (.map (some c))
  | fn (f : FuncId) (fs cs : List AV) (fs' cs' : Array Value) (hf : fs.length = fs'.size) (hc : cs.length = cs'.size)
    (h1 : ∀ (i : Nat) (x : AV) (x' : Value), fs[i]? = some x → fs'[i]? = some x' → VR env r x x') (h2 : ∀ (i : Nat) (x : AV) (x' : Value), cs[i]? = some x → cs'[i]? = some x' → VR env r x x') : VR env r (.fn f fs cs) (.func (.func f) fs' cs')
  | nilf : VR env r .nilf .nilFunc
  | nili : VR env r .nili .nilIface
  | agg (cs : List AV) (cs' : Array Value) (hc : cs.length = cs'.size) (h : ∀ (i : Nat) (x : AV) (x' : Value), cs[i]? = some x → cs'[i]? = some x' → VR env r x x') : VR env r (.agg cs) (.agg cs')
  | tup (cs : List AV) (cs' : Array Value) (hc : cs.length = cs'.size) (h : ∀ (i : Nat) (x : AV) (x' : Value), cs[i]? = some x → cs'[i]? = some x' → VR env r x x') : VR env r (.tup cs) (.tuple cs')

theorem VR.mono {env : Nat → Int} {r r' : Rel} (hr : ∀ b v c d n, r b v c d n → r' b v c d n) {x : AV} {u : Value} (h : VR env r x u) : VR env r' x u := by
  induction h with
  | unk => exact .unk _
  | bool => exact .bool _
  | int => exact .int _ _
  | sym => exact .sym _ _
  | str => exact .str _
  | nilp => exact .nilp
  | ptr b o v c d n h => exact .ptr b o v c d n (hr _ _ _ _ _ h)
  | nils => exact .nils
  | slk b o v c d n len cap h => exact .slk b o v c d n len cap (hr _ _ _ _ _ h)
  | sll b o v c d n len es lb cap h hl hn => exact .sll b o v c d n len es lb cap (hr _ _ _ _ _ h) hl hn
  | sld => exact .sld _ _ _
  | nilm => exact .nilm
  | map b c h => exact .map b c (hr _ _ _ _ _ h)
  | fn f fs cs fs' cs' hf hc _ _ i1 i2 => exact .fn f fs cs fs' cs' hf hc i1 i2
  | nilf => exact .nilf
  | nili => exact .nili
  | agg cs cs' hc _ ih => exact .agg cs cs' hc ih
  | tup cs cs' hc _ ih => exact .tup cs cs' hc ih

/-- Rows of values. -/
def VRs (env : Nat → Int) (r : Rel) (l : List AV) (l' : Array Value) : Prop := l.length = l'.size ∧ ∀ (i : Nat) (x : AV) (x' : Value), l[i]? = some x → l'[i]? = some x' → VR env r x x'

theorem VRs.mono {env : Nat → Int} {r r' : Rel} (hr : ∀ b v c d n, r b v c d n → r' b v c d n) {l : List AV} {l' : Array Value} (h : VRs env r l l') : VRs env r' l l' :=
  ⟨h.1, fun i x x' a b => (h.2 i x x' a b).mono hr⟩

theorem VRs.get {env : Nat → Int} {r : Rel} {l : List AV} {l' : Array Value} (h : VRs env r l l') {i : Nat} {x : AV} (hx : l[i]? = some x) : ∃ u, l'[i]? = some u ∧ VR env r x u := by
  have hi : i < l.length := (List.getElem?_eq_some_iff.1 hx).1
  have hi' : i < l'.size := h.1 ▸ hi
  exact ⟨l'[i], Array.getElem?_eq_getElem hi', h.2 i x _ hx (Array.getElem?_eq_getElem hi')⟩

def AObj.ver : AObj → Nat
  | .cells _ v => v
  | .map _ => 0

def OR (env : Nat → Int) (r : Rel) (b : Nat) (w : World) : AObj → Prop
  | .cells xs v => ∃ (c d n : Nat) (cs : Array Value) (e : TypeId), r b v c d n ∧ w.heap[c]? = some (.cells cs e (0, 0)) ∧ cs.size = n ∧
    ∀ (i : Nat) (x : AV), xs[i]? = some x → ∃ u, cs[i + d]? = some u ∧ VR env r x u
  | .map es => ∃ (c : Nat) (ms : Array MapEntry) (clock : Nat), r b 0 c 0 0 ∧ w.heap[c]? = some (.map ms clock) ∧ es.length = ms.size ∧
    ∀ (i : Nat) (x : AV × AV) (m : MapEntry), es[i]? = some x → ms[i]? = some m → VR env r x.1 m.key ∧ VR env r x.2 m.val

/-- A memory: what stands in which block. -/
abbrev Mem := Nat → Option AObj

structure MR (env : Nat → Int) (r : Rel) (H : Mem) (w : World) : Prop where
  fn : ∀ {b v c d n c' d' n'}, r b v c d n → r b v c' d' n' → c = c' ∧ d = d' ∧ n = n'
  lt : ∀ {b v c d n}, r b v c d n → c < w.heap.size
  ver : ∀ {b o v c d n}, H b = some o → r b v c d n → v ≤ o.ver
  obj : ∀ {b o}, H b = some o → OR env r b w o
  inj : ∀ {b b' o o' c d n d' n'}, H b = some o → H b' = some o' → r b o.ver c d n → r b' o'.ver c d' n' → b = b'

theorem OR.has {env : Nat → Int} {r : Rel} {b : Nat} {w : World} {o : AObj} (h : OR env r b w o) : ∃ c d n, r b o.ver c d n := by
  cases o with
  | cells xs v => obtain ⟨c, d, n, _, _, h, _⟩ := h; exact ⟨c, d, n, h⟩
  | map es => obtain ⟨c, _, _, h, _⟩ := h; exact ⟨c, 0, 0, h⟩

/-- The concrete block of one that stands. -/
def Img (r : Rel) (H : Mem) (c : Nat) : Prop := ∃ b o d n, H b = some o ∧ r b o.ver c d n

def Fresh (r : Rel) (lo hi : Nat) : Prop := ∀ b v c d n, r b v c d n → ¬ (lo ≤ b ∧ b < hi)

structure Grow (env : Nat → Int) (r : Rel) (H : Mem) (nx : Nat) (w : World) (r' : Rel) (H' : Mem) (nx' : Nat) (w' : World) : Prop where
  sub : ∀ b v c d n, r b v c d n → r' b v c d n
  mr : MR env r' H' w'
  nxl : nx ≤ nx'
  old : ∀ b o, H b = some o → ∃ o', H' b = some o' ∧ o.ver ≤ o'.ver
  dom : ∀ (b : Nat) (o : AObj), H' b = some o → (∃ o0, H b = some o0) ∨ (nx ≤ b ∧ b < nx')
  new : ∀ b v c d n, r' b v c d n → r b v c d n ∨ (((nx ≤ b ∧ b < nx') ∨ ∃ o, H b = some o) ∧ (w.heap.size ≤ c ∨ Img r H c))
  frame : ∀ c, c < w.heap.size → ¬ Img r H c → w'.heap[c]? = w.heap[c]?
  size : w.heap.size ≤ w'.heap.size
  os : w'.os = w.os
  tape : w'.tape = w.tape
  output : w'.output = w.output

theorem Grow.refl {env : Nat → Int} {r : Rel} {H : Mem} {nx : Nat} {w : World} (h : MR env r H w) : Grow env r H nx w r H nx w :=
  ⟨fun _ _ _ _ _ h => h, h, Nat.le_refl _, fun _ o h => ⟨o, h, Nat.le_refl _⟩, fun _ o h => .inl ⟨o, h⟩, fun _ _ _ _ _ h => .inl h, fun _ _ _ => rfl, Nat.le_refl _, rfl, rfl, rfl⟩

theorem Grow.img {env : Nat → Int} {r : Rel} {H : Mem} {nx : Nat} {w : World} {r' : Rel} {H' : Mem} {nx' : Nat} {w' : World} {N : Nat}
    (h : MR env r H w) (g : Grow env r H nx w r' H' nx' w') (hf : Fresh r nx N) (hN : nx' ≤ N) {c : Nat} (hi : Img r' H' c) : w.heap.size ≤ c ∨ Img r H c := by
  obtain ⟨b, o', d, n, ho', hr'⟩ := hi
  rcases g.new _ _ _ _ _ hr' with hr | ⟨_, hc⟩
  · rcases g.dom _ _ ho' with ⟨o, ho⟩ | hb
    · obtain ⟨o1, ho1, hv⟩ := g.old _ _ ho
      rw [ho'] at ho1
      obtain rfl := Option.some.inj ho1
      have := h.ver ho hr
      have e : o.ver = o'.ver := by omega
      exact .inr ⟨b, o, d, n, ho, e ▸ hr⟩
    · exact absurd ⟨hb.1, Nat.lt_of_lt_of_le hb.2 hN⟩ (hf _ _ _ _ _ hr)
  · exact hc

theorem Grow.fresh {env : Nat → Int} {r : Rel} {H : Mem} {nx : Nat} {w : World} {r' : Rel} {H' : Mem} {nx' : Nat} {w' : World} {N : Nat}
    (h : MR env r H w) (g : Grow env r H nx w r' H' nx' w') (hf : Fresh r nx N) : Fresh r' nx' N := by
  intro b v c d n hr ⟨h1, h2⟩
  have := g.nxl
  rcases g.new _ _ _ _ _ hr with hr | ⟨hb | ⟨o, ho⟩, _⟩
  · exact hf _ _ _ _ _ hr ⟨by omega, h2⟩
  · omega
  · obtain ⟨_, _, _, h0⟩ := (h.obj ho).has
    exact hf _ _ _ _ _ h0 ⟨by omega, h2⟩

theorem Grow.trans {env : Nat → Int} {r r1 r2 : Rel} {H H1 H2 : Mem} {nx nx1 nx2 N : Nat} {w w1 w2 : World} (h : MR env r H w) (hf : Fresh r nx N) (hN : nx2 ≤ N)
    (g1 : Grow env r H nx w r1 H1 nx1 w1) (g2 : Grow env r1 H1 nx1 w1 r2 H2 nx2 w2) : Grow env r H nx w r2 H2 nx2 w2 where
  sub b v c d n h := g2.sub _ _ _ _ _ (g1.sub _ _ _ _ _ h)
  mr := g2.mr
  nxl := Nat.le_trans g1.nxl g2.nxl
  old b o ho := by
    obtain ⟨o1, h1, v1⟩ := g1.old _ _ ho
    obtain ⟨o2, h2, v2⟩ := g2.old _ _ h1
    exact ⟨o2, h2, Nat.le_trans v1 v2⟩
  dom b o ho := by
    have n1 := g1.nxl
    have n2 := g2.nxl
    rcases g2.dom _ _ ho with ⟨o1, h1⟩ | h1
    · rcases g1.dom _ _ h1 with h0 | h0
      · exact .inl h0
      · exact .inr ⟨h0.1, by omega⟩
    · exact .inr ⟨by omega, h1.2⟩
  new b v c d n hr := by
    have n1 := g1.nxl
    have n2 := g2.nxl
    rcases g2.new _ _ _ _ _ hr with h1 | ⟨hb, hc⟩
    · rcases g1.new _ _ _ _ _ h1 with h0 | ⟨hb, hc⟩
      · exact .inl h0
      · refine .inr ⟨?_, hc⟩
        rcases hb with hb | hb
        · exact .inl ⟨hb.1, by omega⟩
        · exact .inr hb
    · refine .inr ⟨?_, ?_⟩
      · rcases hb with hb | ⟨o, ho⟩
        · exact .inl ⟨by omega, hb.2⟩
        · rcases g1.dom _ _ ho with h0 | h0
          · exact .inr h0
          · exact .inl ⟨h0.1, by omega⟩
      · rcases hc with hc | hc
        · exact .inl (Nat.le_trans g1.size hc)
        · exact g1.img h hf (Nat.le_trans n2 hN) hc
  frame c hc hi := by
    have n2 := g2.nxl
    rw [g2.frame c (Nat.lt_of_lt_of_le hc g1.size) (fun h1 => (g1.img h hf (Nat.le_trans n2 hN) h1).elim (fun h2 => by omega) hi), g1.frame c hc hi]
  size := Nat.le_trans g1.size g2.size
  os := g2.os.trans g1.os
  tape := g2.tape.trans g1.tape
  output := g2.output.trans g1.output

theorem Grow.below {env : Nat → Int} {r : Rel} {nx : Nat} {w : World} {r' : Rel} {H' : Mem} {nx' : Nat} {w' : World} (g : Grow env r (fun _ => none) nx w r' H' nx' w') : Below w.heap.size w w' :=
  ⟨g.os, g.tape, g.output, g.size, fun k hk => g.frame k hk (fun ⟨b, o, d, n, h, _⟩ => by cases h)⟩

end Go.Proofs.Ytdndjcofafkafaa.Sim

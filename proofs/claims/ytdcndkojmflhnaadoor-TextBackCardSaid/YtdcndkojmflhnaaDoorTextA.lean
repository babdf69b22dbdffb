import Derived.Test.YtdcndkojmflhnaaDoorUp
import Derived.Lib.AtoiAll
import Derived.Lib.ItoaNum
import Derived.Lib.SpaceU
import Derived.Lib.Fields
import Derived.Lib.Space
import Derived.Lib.IndexMore
import Derived.Lib.Strings
/- What stands in a text of queues, and how it is read: plain laws. -/
set_option maxRecDepth 100000
set_option maxHeartbeats 4000000
set_option linter.unusedVariables false
set_option linter.unusedSimpArgs false
namespace Go.Proofs.YtdcndkojmflhnaaDoor
open Go.RowKit
/-- the bytes of a text -/
abbrev By := List UInt8
def bs (s : ByteArray) : By := s.data.toList
theorem bs_len (s : ByteArray) : (bs s).length = s.size := by unfold bs; rw [Array.length_toList]; rfl
/-- two digits at the most -/
def dig (n : Nat) : By := if n < 10 then [UInt8.ofNat (48 + n)] else [UInt8.ofNat (48 + n / 10), UInt8.ofNat (48 + n % 10)]
theorem dig_dec {n : Nat} (h : n < 100) : Lib.decDigits n = dig n := by
  unfold dig
  by_cases h1 : n < 10
  · rw [if_pos h1, Lib.decDigits, dif_pos h1]
  · rw [if_neg h1, Lib.decDigits, dif_neg h1, Lib.decDigits, dif_pos (by omega)]
    rfl
theorem dig_atoi : ∀ n : Nat, n < 100 → Lib.atoiAll (dig n) = .ok (n : Int) := by decide
/-- what digits say, the reference's way -/
def saidR (s : By) : Int := if 1 ≤ s.length ∧ s.length ≤ 6 then s.foldl (fun n b => 10 * n + (b.toNat : Int) - 48) 0 else 0
theorem dig_said : ∀ n : Nat, n < 100 → saidR (dig n) = (n : Int) := by decide
theorem dig_bytes : ∀ n : Nat, n < 100 → ∀ b ∈ dig n, 48 ≤ b.toNat ∧ b.toNat ≤ 57 := by decide
theorem dig_len : ∀ n : Nat, n < 100 → 1 ≤ (dig n).length ∧ (dig n).length ≤ 2 := by decide
/-- one run -/
def runB (x : Run) : By := dig x.At.toNat ++ 61 :: dig x.N.toNat
def capB (f : List Run) : By := (f.map fun x => 32 :: runB x).flatten
def headB (l : List Queue) (q : Queue) : By := bs q.Name ++ (if 0 ≤ q.Parent then [32, 60, 32] ++ bs (nm l q.Parent.toNat) else [])
def lineB (l : List Queue) (q : Queue) : By := headB l q ++ 58 :: capB q.Cap
def treeB (l : List Queue) : By := (l.map fun q => lineB l q ++ [10]).flatten
/-- the index of the first queue of that name -/
def findN (l : List Queue) (s : By) : Int := match l.findIdx? (fun q => bs q.Name == s) with | some i => i | none => -1
/-- the runs of the fields -/
def runsR : List By → Option (List Run)
  | [] => some []
  | w :: ws => if (Lib.cut w [61]).2.2 then
      match Lib.atoiAll (Lib.cut w [61]).1, Lib.atoiAll (Lib.cut w [61]).2.1 with
      | .ok a, .ok n => (runsR ws).map (fun r => ⟨a, n⟩ :: r)
      | _, _ => none
    else none
/-- a line that is read -/
def lineQ (l : List Queue) (s : By) : Option Queue :=
  let c := Lib.cut s [58]
  if c.2.2 then
    let d := Lib.cut c.1 [32, 60, 32]
    let p := if d.2.2 then findN l d.2.1 else -1
    if d.2.2 ∧ p < 0 then none
    else (runsR (Lib.fieldsD c.2.1)).map fun r => ⟨⟨d.1.toArray⟩, p, r⟩
  else none
def headL (s : By) : By := if 0 ≤ Lib.indexByte s 10 then s.take ((Lib.indexByte s 10).toNat + 1) else s
def restL (s : By) : By := if 0 ≤ Lib.indexByte s 10 then s.drop ((Lib.indexByte s 10).toNat + 1) else []
def readGo : Nat → List Queue → By → Option (List Queue)
  | 0, l, _ => some l
  | f + 1, l, s => if s = [] then some l else
      match lineQ l (Lib.trimSuffix (headL s) [10]) with
      | none => none
      | some q => readGo f (l ++ [q]) (restL s)
def readL (s : By) : Option (List Queue) := readGo s.length [] s
/-! ### cut -/
theorem index_skip {c : UInt8} {t : By} (s : By) : ∀ (p : By), c ∉ p → Lib.index (p ++ ((c :: t) ++ s)) (c :: t) = p.length
  | [], _ => by
    show Lib.index (c :: (t ++ s)) (c :: t) = 0
    unfold Lib.index
    rw [if_pos (by simp [List.isPrefixOf])]
  | b :: p, h => by
    have hb : c ≠ b := fun e => h (by rw [e]; exact List.mem_cons_self ..)
    have ih := index_skip (c := c) (t := t) s p (fun e => h (List.mem_cons_of_mem _ e))
    show Lib.index (b :: (p ++ ((c :: t) ++ s))) (c :: t) = _
    unfold Lib.index
    rw [if_neg (by simp [List.isPrefixOf, hb]), ih, if_neg (by simp <;> omega)]
    simp
theorem index_miss {c : UInt8} {t : By} : ∀ (p : By), c ∉ p → Lib.index p (c :: t) = -1
  | [], _ => by simp [Lib.index]
  | b :: p, h => by
    have hb : c ≠ b := fun e => h (by rw [e]; exact List.mem_cons_self ..)
    have ih := index_miss (c := c) (t := t) p (fun e => h (List.mem_cons_of_mem _ e))
    unfold Lib.index
    rw [if_neg (by simp [List.isPrefixOf, hb]), ih]
    simp
theorem cut_hit {c : UInt8} {t : By} (p s : By) (h : c ∉ p) : Lib.cut (p ++ ((c :: t) ++ s)) (c :: t) = (p, s, true) := by
  unfold Lib.cut
  rw [index_skip s p h, if_pos (by omega)]
  simp
theorem cut_miss {c : UInt8} {t : By} (p : By) (h : c ∉ p) : Lib.cut p (c :: t) = (p, [], false) := by
  unfold Lib.cut
  rw [index_miss p h, if_neg (by omega)]
theorem indexByte_skip {c : UInt8} (s : By) : ∀ (p : By), c ∉ p → Lib.indexByte (p ++ c :: s) c = p.length
  | [], _ => by show Lib.indexByte (c :: s) c = 0; unfold Lib.indexByte; rw [if_pos (by simp)]
  | b :: p, h => by
    have hb : b ≠ c := fun e => h (by rw [e]; exact List.mem_cons_self ..)
    have ih := indexByte_skip (c := c) s p (fun e => h (List.mem_cons_of_mem _ e))
    show Lib.indexByte (b :: (p ++ c :: s)) c = _
    unfold Lib.indexByte
    rw [if_neg (by simpa using hb), ih, if_neg (by simp <;> omega)]
    simp
/-! ### what stands in a tree's text -/
theorem name_bytes {s : ByteArray} (h : NameOk s) : ∀ b ∈ bs s, 97 ≤ b.toNat ∧ b.toNat ≤ 122 := by
  intro b hb
  obtain ⟨i, hi, rfl⟩ := List.mem_iff_getElem.1 hb
  have hs : i < s.size := by rw [← bs_len]; exact hi
  have := h.2 i hs
  rw [byteAt_get s i hs] at this
  exact this
theorem name_len {s : ByteArray} (h : NameOk s) : 1 ≤ (bs s).length ∧ (bs s).length ≤ 8 := by
  have := h.1
  have e := bs_len s
  omega
theorem cap_mem {f : List Run} (h : CapOk f) : ∀ x ∈ f, (0 ≤ x.At ∧ x.At < 48) ∧ 0 ≤ x.N ∧ x.N ≤ 50 := by
  intro x hx
  refine ⟨?_, h.2 x hx⟩
  obtain ⟨h0, h1, h2⟩ := fine_iff.1 h.1
  obtain ⟨i, hi, rfl⟩ := List.mem_iff_getElem.1 hx
  have hc : ∀ j, (hj : j < f.length) → curAt f j = f[j].At := fun j hj => by unfold curAt; rw [List.getD_eq_getElem?_getD, List.getElem?_eq_getElem hj]; rfl
  have hpos : ∀ j, j < f.length → 0 ≤ curAt f j := by
    intro j
    induction j with
    | zero => intro _; omega
    | succ j ih => intro hj; have := ((h2 (j + 1) hj).2.2 (by omega)).1; have := ih (by omega); simp at *; omega
  have a1 := hpos i hi
  have a2 := (h2 i hi).1
  rw [hc i hi] at a1 a2
  exact ⟨a1, a2⟩
theorem run_bytes {x : Run} (h : (0 ≤ x.At ∧ x.At < 48) ∧ 0 ≤ x.N ∧ x.N ≤ 50) : ∀ b ∈ runB x, 48 ≤ b.toNat ∧ b.toNat ≤ 61 := by
  intro b hb
  unfold runB at hb
  rcases List.mem_append.1 hb with hb | hb
  · have := dig_bytes x.At.toNat (by omega) b hb; omega
  · rcases List.mem_cons.1 hb with rfl | hb
    · decide
    · have := dig_bytes x.N.toNat (by omega) b hb; omega
theorem cap_bytes {f : List Run} (h : CapOk f) : ∀ b ∈ capB f, b.toNat = 32 ∨ (48 ≤ b.toNat ∧ b.toNat ≤ 61 ∧ b.toNat ≠ 58) := by
  intro b hb
  unfold capB at hb
  obtain ⟨l, hl, hb⟩ := List.mem_flatten.1 hb
  obtain ⟨x, hx, rfl⟩ := List.mem_map.1 hl
  have hm := cap_mem h x hx
  rcases List.mem_cons.1 hb with rfl | hb
  · left; rfl
  · right
    unfold runB at hb
    rcases List.mem_append.1 hb with hb | hb
    · have := dig_bytes x.At.toNat (by omega) b hb; omega
    · rcases List.mem_cons.1 hb with rfl | hb
      · decide
      · have := dig_bytes x.N.toNat (by omega) b hb; omega

theorem head_bytes {l : List Queue} (h : TreeOk l) {k : Nat} (hk : k < l.length) : ∀ b ∈ headB l l[k], b.toNat = 32 ∨ b.toNat = 60 ∨ (97 ≤ b.toNat ∧ b.toNat ≤ 122) := by
  have hn : nm l k = l[k].Name := by unfold nm; rw [List.getD_eq_getElem?_getD, List.getElem?_eq_getElem hk]; rfl
  have hp : par l k = l[k].Parent := by unfold par; rw [List.getD_eq_getElem?_getD, List.getElem?_eq_getElem hk]; rfl
  have h1 := name_bytes (h.names k hk)
  have h2 := h.pars k hk
  rw [hn] at h1; rw [hp] at h2
  intro b hb
  unfold headB at hb
  rcases List.mem_append.1 hb with hb | hb
  · exact .inr (.inr (h1 b hb))
  · by_cases h0 : 0 ≤ l[k].Parent
    · rw [if_pos h0] at hb
      rcases List.mem_append.1 hb with hb | hb
      · simp only [List.mem_cons, List.not_mem_nil, or_false] at hb
        rcases hb with rfl | rfl | rfl <;> simp
      · have := h2.2
        exact .inr (.inr (name_bytes (h.names l[k].Parent.toNat (by omega)) b hb))
    · rw [if_neg h0] at hb
      cases hb
theorem line_no10 {l : List Queue} (h : TreeOk l) {k : Nat} (hk : k < l.length) : (10 : UInt8) ∉ lineB l l[k] := by
  intro hb
  have hc : cp l k = l[k].Cap := by unfold cp; rw [List.getD_eq_getElem?_getD, List.getElem?_eq_getElem hk]; rfl
  unfold lineB at hb
  rcases List.mem_append.1 hb with hb | hb
  · have := head_bytes h hk _ hb
    simp at this
  · rcases List.mem_cons.1 hb with hb | hb
    · cases hb
    · have := cap_bytes (by have := h.caps k hk; rwa [hc] at this) _ hb
      simp at this
theorem trim_line (x : By) : Lib.trimSuffix (x ++ [10]) [10] = x := by
  unfold Lib.trimSuffix Lib.hasSuffix
  rw [if_pos (by simp)]
  simp
theorem head_next (x s : By) (h : (10 : UInt8) ∉ x) : headL (x ++ 10 :: s) = x ++ [10] ∧ restL (x ++ 10 :: s) = s := by
  unfold headL restL
  rw [indexByte_skip s x h, if_pos (by omega), if_pos (by omega)]
  refine ⟨?_, ?_⟩
  · rw [List.take_append, List.take_of_length_le (by omega)]; simp
  · rw [List.drop_append, List.drop_eq_nil_of_le (by omega)]; simp
/-! ### fields -/
theorem sp_not {b : UInt8} (h : 48 ≤ b.toNat ∧ b.toNat ≤ 61) : Lib.isSp b = false := by
  unfold Lib.isSp
  have e : ∀ n : UInt8, n.toNat < 48 → b ≠ n := fun n hn e => by rw [e] at h; omega
  simp [e 9 (by decide), e 10 (by decide), e 11 (by decide), e 12 (by decide), e 13 (by decide), e 32 (by decide)]
theorem fields_word : ∀ (w cur s : By), (∀ b ∈ w, Lib.isSp b = false) → Lib.fieldsGo cur (w ++ s) = Lib.fieldsGo (cur ++ w) s
  | [], cur, s, _ => by simp
  | b :: w, cur, s, h => by
    show Lib.fieldsGo cur (b :: (w ++ s)) = _
    rw [Lib.fieldsGo, if_neg (by simp [h b (List.mem_cons_self ..)]), fields_word w (cur ++ [b]) s (fun c hc => h c (List.mem_cons_of_mem _ hc))]
    simp
theorem runB_ne (x : Run) : runB x ≠ [] := by unfold runB; simp
theorem fields_cap : ∀ (f : List Run), (∀ x ∈ f, (0 ≤ x.At ∧ x.At < 48) ∧ 0 ≤ x.N ∧ x.N ≤ 50) → ∀ cur : By,
    Lib.fieldsGo cur (capB f) = (if cur = [] then [] else [cur]) ++ f.map runB
  | [], _, cur => by
    show Lib.fieldsGo cur [] = _
    cases cur <;> simp [Lib.fieldsGo]
  | x :: f, h, cur => by
    have hx := h x (List.mem_cons_self ..)
    have ih := fields_cap f (fun y hy => h y (List.mem_cons_of_mem _ hy)) (runB x)
    rw [if_neg (runB_ne x)] at ih
    have e : capB (x :: f) = 32 :: (runB x ++ capB f) := by simp [capB]
    rw [e, Lib.fieldsGo, if_pos (by decide)]
    have e2 : Lib.fieldsGo [] (runB x ++ capB f) = runB x :: f.map runB := by
      rw [fields_word _ _ _ (fun b hb => sp_not (run_bytes hx b hb))]
      simpa using ih
    cases cur <;> simp [e2]
theorem runB_cut {x : Run} (h : (0 ≤ x.At ∧ x.At < 48) ∧ 0 ≤ x.N ∧ x.N ≤ 50) : Lib.cut (runB x) [61] = (dig x.At.toNat, dig x.N.toNat, true) := by
  have := cut_hit (c := 61) (t := []) (dig x.At.toNat) (dig x.N.toNat) (fun hb => by have := dig_bytes x.At.toNat (by omega) _ hb; simp at this)
  exact this
theorem runs_back : ∀ (f : List Run), (∀ x ∈ f, (0 ≤ x.At ∧ x.At < 48) ∧ 0 ≤ x.N ∧ x.N ≤ 50) → runsR (f.map runB) = some f
  | [], _ => rfl
  | x :: f, h => by
    have hx := h x (List.mem_cons_self ..)
    have ih := runs_back f (fun y hy => h y (List.mem_cons_of_mem _ hy))
    show runsR (runB x :: f.map runB) = _
    have e1 := dig_atoi x.At.toNat (by omega)
    have e2 := dig_atoi x.N.toNat (by omega)
    rw [runsR, runB_cut hx, if_pos rfl]
    simp only [e1, e2, ih]
    have a1 : ((x.At.toNat : Nat) : Int) = x.At := by omega
    have a2 : ((x.N.toNat : Nat) : Int) = x.N := by omega
    rw [a1, a2]; rfl
theorem find_par {l : List Queue} (h : TreeOk l) {k p : Nat} (hk : k ≤ l.length) (hp : p < k) : findN (l.take k) (bs (nm l p)) = p := by
  have hg : ∀ j, j < k → (l.take k)[j]? = some (l.getD j default) := fun j hj => by
    rw [List.getElem?_take, if_pos hj, List.getD_eq_getElem?_getD, List.getElem?_eq_getElem (by omega)]; rfl
  have e : (l.take k).findIdx? (fun q => bs q.Name == bs (nm l p)) = some p := by
    rw [List.findIdx?_eq_some_iff_getElem]
    have hlen : (l.take k).length = k := by simp; omega
    have hgl : ∀ j, (hj : j < (l.take k).length) → (l.take k)[j].Name = nm l j := fun j hj => by
      have := hg j (by omega)
      rw [List.getElem?_eq_getElem hj] at this
      injection this with this
      rw [this]; rfl
    refine ⟨by omega, by rw [hgl p (by omega)]; simp, fun j hj => ?_⟩
    rw [hgl j (by omega)]
    simp only [beq_iff_eq, bs]
    intro e
    refine h.diff j p hj (by omega) ?_
    have e' : (nm l j).data = (nm l p).data := by
      have := congrArg List.toArray e; simpa using this
    exact ByteArray.ext e'
  unfold findN; rw [e]
theorem arr_bs (s : ByteArray) : (⟨(bs s).toArray⟩ : ByteArray) = s := by cases s; simp [bs]
theorem line_back (hD : ∀ l : By, (∀ b ∈ l, b.toNat < 128) → Lib.fieldsD l = Lib.fields l) {l : List Queue} (h : TreeOk l) {k : Nat} (hk : k < l.length) : lineQ (l.take k) (lineB l l[k]) = some l[k] := by
  have hn : nm l k = l[k].Name := by unfold nm; rw [List.getD_eq_getElem?_getD, List.getElem?_eq_getElem hk]; rfl
  have hp : par l k = l[k].Parent := by unfold par; rw [List.getD_eq_getElem?_getD, List.getElem?_eq_getElem hk]; rfl
  have hc : cp l k = l[k].Cap := by unfold cp; rw [List.getD_eq_getElem?_getD, List.getElem?_eq_getElem hk]; rfl
  have hcap : CapOk l[k].Cap := by have := h.caps k hk; rwa [hc] at this
  have hnb := name_bytes (h.names k hk); rw [hn] at hnb
  have hpp := h.pars k hk; rw [hp] at hpp
  have h32 : (32 : UInt8) ∉ bs l[k].Name := fun hb => by have := hnb _ hb; simp at this
  have e1 : Lib.cut (lineB l l[k]) [58] = (headB l l[k], capB l[k].Cap, true) := by
    have := cut_hit (c := 58) (t := []) (headB l l[k]) (capB l[k].Cap) (fun hb => by have := head_bytes h hk _ hb; simp at this)
    exact this
  have e3 : Lib.fieldsD (capB l[k].Cap) = l[k].Cap.map runB := by
    rw [hD _ (fun b hb => by have := cap_bytes hcap b hb; omega)]
    have := fields_cap l[k].Cap (cap_mem hcap) []
    simpa [Lib.fields] using this
  have e4 := runs_back l[k].Cap (cap_mem hcap)
  unfold lineQ
  simp only [e1, e3, e4, if_true]
  by_cases h0 : 0 ≤ l[k].Parent
  · have hd : headB l l[k] = bs l[k].Name ++ ([32, 60, 32] ++ bs (nm l l[k].Parent.toNat)) := by unfold headB; rw [if_pos h0]
    have e2 : Lib.cut (headB l l[k]) [32, 60, 32] = (bs l[k].Name, bs (nm l l[k].Parent.toNat), true) := by
      rw [hd]; exact cut_hit (c := 32) (t := [60, 32]) _ _ h32
    have e5 := find_par h (Nat.le_of_lt hk) (p := l[k].Parent.toNat) (by have := hpp.2; omega)
    simp only [e2, e5, if_true]
    rw [if_neg (by omega)]
    simp only [Option.map_some, arr_bs, Option.some.injEq]
    have a : ((l[k].Parent.toNat : Nat) : Int) = l[k].Parent := by omega
    rw [a]
  · have hd : headB l l[k] = bs l[k].Name := by unfold headB; rw [if_neg h0]; simp
    have e2 : Lib.cut (headB l l[k]) [32, 60, 32] = (bs l[k].Name, [], false) := by rw [hd]; exact cut_miss (c := 32) (t := [60, 32]) _ h32
    simp only [e2]
    rw [if_neg (by simp)]
    simp only [Option.map_some, arr_bs, Option.some.injEq]
    have a : l[k].Parent = -1 := by have := hpp.1; omega
    have : l[k] = ⟨l[k].Name, l[k].Parent, l[k].Cap⟩ := rfl
    rw [this, a]; simp

/-! ### the whole text, read -/
def restB (l : List Queue) (k : Nat) : By := ((l.drop k).map fun q => lineB l q ++ [10]).flatten
theorem restB_step {l : List Queue} {k : Nat} (hk : k < l.length) : restB l k = lineB l l[k] ++ 10 :: restB l (k + 1) := by
  unfold restB
  rw [List.drop_eq_getElem_cons hk, List.map_cons, List.flatten_cons, List.append_assoc]
  rfl
theorem restB_end {l : List Queue} {k : Nat} (hk : l.length ≤ k) : restB l k = [] := by
  unfold restB
  rw [List.drop_eq_nil_of_le hk]; rfl
theorem restB_zero (l : List Queue) : restB l 0 = treeB l := rfl
theorem read_rest (hD : ∀ l : By, (∀ b ∈ l, b.toNat < 128) → Lib.fieldsD l = Lib.fields l) {l : List Queue} (h : TreeOk l) : ∀ (f k : Nat), k ≤ l.length → (restB l k).length ≤ f → readGo f (l.take k) (restB l k) = some l
  | 0, k, hk, hf => by
    by_cases hkl : k < l.length
    · rw [restB_step hkl] at hf; simp at hf
    · show some (l.take k) = _
      rw [List.take_of_length_le (by omega)]
  | f + 1, k, hk, hf => by
    by_cases hkl : k < l.length
    · have hs := restB_step hkl
      rw [hs] at hf ⊢
      obtain ⟨e1, e2⟩ := head_next (lineB l l[k]) (restB l (k + 1)) (line_no10 h hkl)
      rw [readGo, if_neg (by simp), e1, e2, trim_line, line_back hD h hkl]
      have ih := read_rest hD h f (k + 1) hkl (by simp at hf; omega)
      have et : l.take k ++ [l[k]] = l.take (k + 1) := by simp
      show readGo f (l.take k ++ [l[k]]) _ = _
      rw [et]; exact ih
    · rw [restB_end (by omega), readGo, if_pos rfl, List.take_of_length_le (by omega)]
theorem readL_tree (hD : ∀ l : By, (∀ b ∈ l, b.toNat < 128) → Lib.fieldsD l = Lib.fields l) {l : List Queue} (h : TreeOk l) : readL (treeB l) = some l := by
  have := read_rest hD h (restB l 0).length 0 (Nat.zero_le _) (Nat.le_refl _)
  rw [restB_zero] at this
  exact this
/-! ### the reference's reading -/
def runsGo : Nat → Bool → By → List Run
  | 0, _, _ => []
  | f + 1, more, s => if more then
      ⟨saidR (Lib.cut (Lib.cut s [32]).1 [61]).1, saidR (Lib.cut (Lib.cut s [32]).1 [61]).2.1⟩ :: runsGo f (Lib.cut s [32]).2.2 (Lib.cut s [32]).2.1
    else []
/-- the last queue of that name among the first k -/
def lastT (l : List Queue) (s : By) : Nat → Int
  | 0 => -1
  | k + 1 => if bs (nm l k) = s then (k : Int) else lastT l s k
def fromLine (l : List Queue) (s : By) : Queue :=
  ⟨⟨(Lib.cut (Lib.cut s [58, 32]).1 [32, 60, 32]).1.toArray⟩,
    if (Lib.cut (Lib.cut s [58, 32]).1 [32, 60, 32]).2.2 then lastT l (Lib.cut (Lib.cut s [58, 32]).1 [32, 60, 32]).2.1 l.length else -1,
    runsGo ((Lib.cut s [58, 32]).2.1.length + 1) (Lib.cut s [58, 32]).2.2 (Lib.cut s [58, 32]).2.1⟩
def fromGo : Nat → List Queue → By → List Queue
  | 0, l, _ => l
  | f + 1, l, s => if s = [] then l else fromGo f (l ++ [fromLine l (Lib.cut s [10]).1]) (Lib.cut s [10]).2.1
def fromL (s : By) : List Queue := fromGo s.length [] s
theorem run_no32 {x : Run} (h : (0 ≤ x.At ∧ x.At < 48) ∧ 0 ≤ x.N ∧ x.N ≤ 50) : (32 : UInt8) ∉ runB x := fun hb => by
  have := run_bytes h _ hb; simp at this
theorem runsGo_back : ∀ (f : List Run) (n : Nat) (x : Run), (∀ y ∈ x :: f, (0 ≤ y.At ∧ y.At < 48) ∧ 0 ≤ y.N ∧ y.N ≤ 50) → f.length < n → runsGo n true (runB x ++ capB f) = x :: f
  | f, 0, x, _, hn => by omega
  | f, n + 1, x, h, hn => by
    have hx := h x (List.mem_cons_self ..)
    have e1 := dig_said x.At.toNat (by omega)
    have e2 := dig_said x.N.toNat (by omega)
    have a1 : ((x.At.toNat : Nat) : Int) = x.At := by omega
    have a2 : ((x.N.toNat : Nat) : Int) = x.N := by omega
    rw [a1] at e1; rw [a2] at e2
    cases f with
    | nil =>
      have e : capB [] = [] := rfl
      rw [e, List.append_nil, runsGo, if_pos rfl, cut_miss (c := 32) (t := []) _ (run_no32 hx)]
      simp only [runB_cut hx, e1, e2]
      cases n <;> simp [runsGo]
    | cons y f =>
      have ih := runsGo_back f n y (fun z hz => h z (List.mem_cons_of_mem _ hz)) (by simp at hn; omega)
      have e : capB (y :: f) = [32] ++ (runB y ++ capB f) := by simp [capB]
      have ec := cut_hit (c := 32) (t := []) (runB x) (runB y ++ capB f) (run_no32 hx)
      rw [e, runsGo, if_pos rfl, ec]
      simp only [runB_cut hx, e1, e2, ih]
theorem lastT_par {l : List Queue} (h : TreeOk l) {k p : Nat} (hk : k ≤ l.length) (hp : p < k) : ∀ j, p < j → j ≤ k → lastT (l.take k) (bs (nm l p)) j = p
  | 0, hj, _ => by omega
  | j + 1, hj, hjk => by
    have hg : nm (l.take k) j = nm l j := by
      unfold nm; rw [List.getD_eq_getElem?_getD, List.getD_eq_getElem?_getD, List.getElem?_take, if_pos (by omega)]
    rw [lastT, hg]
    by_cases e : p = j
    · subst e; rw [if_pos rfl]
    · rw [if_neg]
      · exact lastT_par h hk hp j (by omega) (by omega)
      · intro e'
        refine h.diff p j (by omega) (by omega) ?_
        have e2 : (nm l p).data = (nm l j).data := by have := congrArg List.toArray e'; simpa [bs] using this.symm
        exact ByteArray.ext e2
theorem cap_ne {f : List Run} (h : CapOk f) : f ≠ [] := by
  have := (fine_iff.1 h.1).1
  intro e; subst e; simp at this
theorem capB_len (f : List Run) : f.length ≤ (capB f).length := by
  induction f with
  | nil => simp
  | cons x f ih =>
    have e : capB (x :: f) = 32 :: (runB x ++ capB f) := by simp [capB]
    rw [e]; simp; omega
theorem fromLine_back {l : List Queue} (h : TreeOk l) {k : Nat} (hk : k < l.length) : fromLine (l.take k) (lineB l l[k]) = l[k] := by
  have hn : nm l k = l[k].Name := by unfold nm; rw [List.getD_eq_getElem?_getD, List.getElem?_eq_getElem hk]; rfl
  have hp : par l k = l[k].Parent := by unfold par; rw [List.getD_eq_getElem?_getD, List.getElem?_eq_getElem hk]; rfl
  have hc : cp l k = l[k].Cap := by unfold cp; rw [List.getD_eq_getElem?_getD, List.getElem?_eq_getElem hk]; rfl
  have hcap : CapOk l[k].Cap := by have := h.caps k hk; rwa [hc] at this
  have hnb := name_bytes (h.names k hk); rw [hn] at hnb
  have hpp := h.pars k hk; rw [hp] at hpp
  have h32 : (32 : UInt8) ∉ bs l[k].Name := fun hb => by have := hnb _ hb; simp at this
  obtain ⟨x, r, hxr⟩ : ∃ x r, l[k].Cap = x :: r := by
    cases hcp : l[k].Cap with
    | nil => exact absurd hcp (cap_ne hcap)
    | cons x r => exact ⟨x, r, rfl⟩
  have e1 : Lib.cut (lineB l l[k]) [58, 32] = (headB l l[k], runB x ++ capB r, true) := by
    have := cut_hit (c := 58) (t := [32]) (headB l l[k]) (runB x ++ capB r) (fun hb => by have := head_bytes h hk _ hb; simp at this)
    have e : lineB l l[k] = headB l l[k] ++ ([58, 32] ++ (runB x ++ capB r)) := by unfold lineB; rw [hxr]; simp [capB]
    rw [e]; exact this
  have e3 : runsGo ((runB x ++ capB r).length + 1) true (runB x ++ capB r) = l[k].Cap := by
    rw [hxr]
    refine runsGo_back r _ x (fun y hy => cap_mem hcap y (by rw [hxr]; exact hy)) ?_
    have := capB_len r; simp; omega
  unfold fromLine
  simp only [e1, e3]
  by_cases h0 : 0 ≤ l[k].Parent
  · have hd : headB l l[k] = bs l[k].Name ++ ([32, 60, 32] ++ bs (nm l l[k].Parent.toNat)) := by unfold headB; rw [if_pos h0]
    have e2 : Lib.cut (headB l l[k]) [32, 60, 32] = (bs l[k].Name, bs (nm l l[k].Parent.toNat), true) := by
      rw [hd]; exact cut_hit (c := 32) (t := [60, 32]) _ _ h32
    have e5 := lastT_par h (Nat.le_of_lt hk) (p := l[k].Parent.toNat) (by have := hpp.2; omega) k (by have := hpp.2; omega) (Nat.le_refl _)
    have el : (l.take k).length = k := by simp; omega
    simp only [e2, el, e5, if_true, arr_bs]
    have a : ((l[k].Parent.toNat : Nat) : Int) = l[k].Parent := by omega
    rw [a]
  · have hd : headB l l[k] = bs l[k].Name := by unfold headB; rw [if_neg h0]; simp
    have e2 : Lib.cut (headB l l[k]) [32, 60, 32] = (bs l[k].Name, [], false) := by rw [hd]; exact cut_miss (c := 32) (t := [60, 32]) _ h32
    simp only [e2, arr_bs]
    have a : l[k].Parent = -1 := by have := hpp.1; omega
    have : l[k] = ⟨l[k].Name, l[k].Parent, l[k].Cap⟩ := rfl
    rw [this, a]; simp
theorem from_rest {l : List Queue} (h : TreeOk l) : ∀ (f k : Nat), k ≤ l.length → (restB l k).length ≤ f → fromGo f (l.take k) (restB l k) = l
  | 0, k, hk, hf => by
    by_cases hkl : k < l.length
    · rw [restB_step hkl] at hf; simp at hf
    · show l.take k = _
      rw [List.take_of_length_le (by omega)]
  | f + 1, k, hk, hf => by
    by_cases hkl : k < l.length
    · have hs := restB_step hkl
      rw [hs] at hf ⊢
      have ec := cut_hit (c := 10) (t := []) (lineB l l[k]) (restB l (k + 1)) (line_no10 h hkl)
      have ec' : Lib.cut (lineB l l[k] ++ 10 :: restB l (k + 1)) [10] = (lineB l l[k], restB l (k + 1), true) := ec
      rw [fromGo, if_neg (by simp), ec']
      have ih := from_rest h f (k + 1) hkl (by simp at hf; omega)
      have et : l.take k ++ [l[k]] = l.take (k + 1) := by simp
      show fromGo f (l.take k ++ [fromLine (l.take k) (lineB l l[k])]) _ = _
      rw [fromLine_back h hkl, et]; exact ih
    · rw [restB_end (by omega), fromGo, if_pos rfl, List.take_of_length_le (by omega)]
theorem fromL_tree {l : List Queue} (h : TreeOk l) : fromL (treeB l) = l := by
  have := from_rest h (restB l 0).length 0 (Nat.zero_le _) (Nat.le_refl _)
  rw [restB_zero] at this
  exact this
/-! ### what the calls answer -/
@[irreducible] def showR (l : List Queue) : By × Int := if checkT l = 0 then (treeB l, 0) else ([], checkT l)
@[irreducible] def readR (s : By) : List Queue × Int := if 4096 < s.length then ([], 2) else
  match readL s with
  | some l => if checkT l = 0 ∧ treeB l = s then (l, 0) else ([], 1)
  | none => ([], 1)
@[irreducible] def fromR (s : By) : List Queue × Bool := if checkT (fromL s) = 0 ∧ treeB (fromL s) = s then (fromL s, true) else ([], false)
theorem read_from (hD : ∀ l : By, (∀ b ∈ l, b.toNat < 128) → Lib.fieldsD l = Lib.fields l) {s : By} (h : s.length ≤ 4096) : (readR s).1 = (fromR s).1 ∧ (readR s).2 = if (fromR s).2 then 0 else 1 := by
  unfold readR fromR
  rw [if_neg (by omega)]
  by_cases hf : checkT (fromL s) = 0 ∧ treeB (fromL s) = s
  · have hr : readL s = some (fromL s) := by
      have := readL_tree hD (checkT_ok hf.1)
      rw [hf.2] at this; exact this
    rw [if_pos hf, hr]
    simp [hf]
  · rw [if_neg hf]
    cases hr : readL s with
    | none => simp
    | some l =>
      have hn : ¬ (checkT l = 0 ∧ treeB l = s) := fun hl => by
        have := fromL_tree (checkT_ok hl.1)
        rw [hl.2] at this
        rw [this] at hf; exact hf hl
      simp [hn]
theorem show_read {s : By} (h : (readR s).2 = 0) : checkT (readR s).1 = 0 ∧ treeB (readR s).1 = s := by
  unfold readR at h ⊢
  by_cases h1 : 4096 < s.length
  · rw [if_pos h1] at h; simp at h
  · rw [if_neg h1] at h ⊢
    cases hr : readL s with
    | none => rw [hr] at h; simp at h
    | some l =>
      rw [hr] at h
      by_cases hl : checkT l = 0 ∧ treeB l = s
      · simp only [if_pos hl]; exact hl
      · simp [hl] at h
theorem cap_len {f : List Run} (h : CapOk f) : f.length ≤ 48 := by
  obtain ⟨h0, h1, h2⟩ := fine_iff.1 h.1
  have hpos : ∀ j, j < f.length → (j : Int) ≤ curAt f j := by
    intro j
    induction j with
    | zero => intro _; omega
    | succ j ih => intro hj; have := ((h2 (j + 1) hj).2.2 (by omega)).1; have := ih (by omega); simp at *; omega
  have a1 := hpos (f.length - 1) (by omega)
  have a2 := (h2 (f.length - 1) (by omega)).1
  omega
theorem capB_le : ∀ (f : List Run), (∀ x ∈ f, (0 ≤ x.At ∧ x.At < 48) ∧ 0 ≤ x.N ∧ x.N ≤ 50) → (capB f).length ≤ f.length * 6
  | [], _ => by simp [capB]
  | x :: f, h => by
    have hx := h x (List.mem_cons_self ..)
    have ih := capB_le f (fun y hy => h y (List.mem_cons_of_mem _ hy))
    have e : capB (x :: f) = 32 :: (runB x ++ capB f) := by simp [capB]
    have l1 := dig_len x.At.toNat (by omega)
    have l2 := dig_len x.N.toNat (by omega)
    rw [e]; unfold runB; simp; omega
theorem line_len {l : List Queue} (h : TreeOk l) {k : Nat} (hk : k < l.length) : (lineB l l[k]).length ≤ 320 := by
  have hn : nm l k = l[k].Name := by unfold nm; rw [List.getD_eq_getElem?_getD, List.getElem?_eq_getElem hk]; rfl
  have hp : par l k = l[k].Parent := by unfold par; rw [List.getD_eq_getElem?_getD, List.getElem?_eq_getElem hk]; rfl
  have hc : cp l k = l[k].Cap := by unfold cp; rw [List.getD_eq_getElem?_getD, List.getElem?_eq_getElem hk]; rfl
  have hcap : CapOk l[k].Cap := by have := h.caps k hk; rwa [hc] at this
  have hnl := name_len (h.names k hk); rw [hn] at hnl
  have hpp := h.pars k hk; rw [hp] at hpp
  have c1 := capB_le l[k].Cap (cap_mem hcap)
  have c2 := cap_len hcap
  unfold lineB headB
  by_cases h0 : 0 ≤ l[k].Parent
  · have hpl := name_len (h.names l[k].Parent.toNat (by have := hpp.2; omega))
    rw [if_pos h0]; simp; omega
  · rw [if_neg h0]; simp; omega
theorem restB_len {l : List Queue} (h : TreeOk l) : ∀ (n k : Nat), l.length - k = n → (restB l k).length ≤ n * 321
  | 0, k, hn => by rw [restB_end (by omega)]; simp
  | n + 1, k, hn => by
    have ih := restB_len h n (k + 1) (by omega)
    have := line_len h (k := k) (by omega)
    rw [restB_step (by omega)]; simp; omega
theorem tree_len {l : List Queue} (h : TreeOk l) : (treeB l).length ≤ 1605 := by
  have := restB_len h l.length 0 (by omega)
  have h5 := h.n5
  rw [restB_zero] at this; omega
theorem read_show (hD : ∀ l : By, (∀ b ∈ l, b.toNat < 128) → Lib.fieldsD l = Lib.fields l) {l : List Queue} (h : checkT l = 0) : readR (treeB l) = (l, 0) := by
  have hl := tree_len (checkT_ok h)
  unfold readR
  rw [if_neg (by omega), readL_tree hD (checkT_ok h)]
  simp [h]
end Go.Proofs.YtdcndkojmflhnaaDoor

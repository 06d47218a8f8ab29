import Derived.Test.YtolpjgpimholcaaGl
/- Chapter 08's ItemFields in plain words: what a field that is set turns. No program in sight. -/
namespace Go.Proofs.Ytolpjgpimholcaa.ArenaPure
open Go Go.RowKit Go.Proofs.Ytolpjgpimholcaa.Mem Go.Proofs.Ytolpjgpimholcaa.CodecPure Go.Proofs.Ytolpjgpimholcaa.Codec Go.Proofs.Ytolpjgpimholcaa.Arena Go.Proofs.Ytolpjgpimholcaa.NeedPure
set_option linter.unusedVariables false
set_option maxRecDepth 100000
variable {s t : St} {x f g v : Int}
theorem place_is {s t : St} (ho : t.own = s.own) {x : Int} (e : got t x 4 = got s x 4) : place t x = place s x := by
  unfold place
  rw [e]
  by_cases h : within s x 4
  · rw [if_pos h, if_pos ((within_own ho x 4).2 h)]
  · rw [if_neg h, if_neg fun q => h ((within_own ho x 4).1 q)]
theorem itemGet_is {s t : St} (ho : t.own = s.own) {x f : Int} (e : got t (x + fat f) (fw f) = got s (x + fat f) (fw f)) : itemGet t x f = itemGet s x f := by
  unfold itemGet
  rw [ho]
  by_cases h1 : f < 0 ∨ 11 < f ∨ f = 4
  · rw [if_pos h1, if_pos h1]
  · rw [if_neg h1, if_neg h1]
    by_cases h2 : x < 0 ∨ 1024 * (s.own.length : Int) < x
    · rw [if_pos h2, if_pos h2]
    · rw [if_neg h2, if_neg h2]
      by_cases h3 : f ≤ 3
      · have e4 : fw f = 4 := by unfold fw; split <;> omega
        rw [e4] at e
        rw [if_pos h3, if_pos h3, place_is ho e]
      · rw [if_neg h3, if_neg h3, number_got ho e]
/-- a field set: it is laid, or nothing turns -/
theorem set_cases (hs : Ok s) (h : within s x 40) (g v : Int) : (0 ≤ g ∧ g ≤ 11 ∧ g ≠ 4 ∧ Fits g v ∧ itemSet s x g v = (lay s (x + fat g) (fb g v), 0)) ∨ ∃ er, er ≠ 0 ∧ itemSet s x g v = (s, er) := by
  by_cases h1 : g < 0 ∨ 11 < g ∨ g = 4
  · exact .inr ⟨6, by decide, by unfold itemSet; rw [if_pos h1]⟩
  · by_cases hf : Fits g v
    · exact .inl ⟨by omega, by omega, by omega, hf, itemSet_lay hs h (by omega) (by omega) (by omega) hf⟩
    · right
      have hw := hdr_f h (f := g) (by omega) (by omega)
      unfold itemSet
      rw [if_neg h1, if_neg (hdr_no h)]
      unfold Fits at hf
      by_cases h3 : g ≤ 3
      · rw [if_pos h3] at hf ⊢
        have e4 : fw g = 4 := by unfold fw; split <;> omega
        rw [e4] at hw
        unfold setPlace
        rw [if_pos hw]
        have hp : v < -1 ∨ v > 2147483647 := by unfold Pl at hf; omega
        have e : putPlaceC (got s (x + fat g) 4) 0 v = (got s (x + fat g) 4, (putPlaceC (got s (x + fat g) 4) 0 v).2) ∧ (putPlaceC (got s (x + fat g) 4) 0 v).2 ≠ 0 := by
          unfold putPlaceC
          by_cases ht : there (got s (x + fat g) 4).length 0 4
          · simp only [if_pos ht, if_pos hp]; exact ⟨trivial, by show (6 : Int) ≠ 0; decide⟩
          · simp only [if_neg ht]; exact ⟨trivial, by show (1 : Int) ≠ 0; decide⟩
        refine ⟨_, e.2, ?_⟩
        rw [show (putPlaceC (got s (x + fat g) 4) 0 v).1 = got s (x + fat g) 4 by rw [e.1], lay_got hs hw]
      · rw [if_neg h3] at hf ⊢
        by_cases h0 : v < 0
        · rw [if_pos h0]; exact ⟨6, by decide, rfl⟩
        · rw [if_neg h0]
          have c := fw_cases (f := g) (by omega) (by omega) (by omega)
          unfold setNumber
          rw [if_pos hw]
          have hv : v / 2 ^ (8 * (fw g).toNat) ≠ 0 := fun e => hf ⟨by omega, by
            have hp : (0 : Int) < 2 ^ (8 * (fw g).toNat) := Int.pow_pos (by decide)
            have := Int.lt_mul_ediv_self_add (x := v) hp
            rw [e, Int.mul_zero] at this
            omega⟩
          have e : (putC (got s (x + fat g) (fw g)) 0 (fw g) v).1 = got s (x + fat g) (fw g) ∧ (putC (got s (x + fat g) (fw g)) 0 (fw g) v).2 ≠ 0 := by
            unfold putC
            split
            · rw [if_pos ⟨by omega, hv⟩]; exact ⟨rfl, by show (6 : Int) ≠ 0; decide⟩
            · exact ⟨rfl, by show (1 : Int) ≠ 0; decide⟩
          refine ⟨_, e.2, ?_⟩
          rw [e.1, lay_got hs hw]
/-- each field, behind a set -/
theorem get_set (hs : Ok s) (h : within s x 40) (f : Int) : itemGet (itemSet s x g v).1 x f = if (itemSet s x g v).2 = 0 ∧ f = g then (v, 0) else itemGet s x f := by
  rcases set_cases hs h g v with ⟨g0, g1, g4, gf, e⟩ | ⟨er, h0, e⟩
  · rw [e]
    have hw := hdr_f h g0 g1
    have hl := fb_length v g0 g1
    have hx := h.2.1
    have hok : Ok (lay s (x + fat g) (fb g v)) := lay_ok hs (by have := in_row hs hw; omega) (fb_bytes g v)
    by_cases e1 : f = g
    · subst e1
      rw [if_pos ⟨rfl, rfl⟩]
      refine itemGet_of hok h g0 g1 g4 gf ?_
      have := got_lay hs (x := x + fat f) (X := fb f v) (by rw [hl]; exact hw)
      rwa [hl] at this
    · rw [if_neg fun q => e1 q.2]
      by_cases h1 : f < 0 ∨ 11 < f ∨ f = 4
      · unfold itemGet
        rw [if_pos h1, if_pos h1]
      · refine itemGet_is (t := lay s (x + fat g) (fb g v)) (s := s) rfl (got_lay_off hs (by rw [hl]; exact hw) ?_ ?_ ?_)
        · have := fat_in (f := f) (by omega) (by omega); omega
        · have := fat_in (f := f) (by omega) (by omega); omega
        · rw [hl]
          have := fat_off (f := f) (g := g) (by omega) (by omega) g0 g1 e1
          omega
  · rw [e, if_neg fun q => h0 q.1]
/-- an item of which a field is set that says not where its parts are -/
theorem set_item {key val : List Int} {ex fl cas : Int} (h : ItemAt s 1024 [0] key val ex fl cas) (hv : val.length ≤ 900) (hg : (itemSet s 0 g v).2 = 0 → g ≠ 3 ∧ g ≠ 7 ∧ g ≠ 8) :
    ItemAt (itemSet s 0 g v).1 1024 [0] key val (if (itemSet s 0 g v).2 = 0 ∧ g = 5 then v else ex) (if (itemSet s 0 g v).2 = 0 ∧ g = 6 then v else fl) cas := by
  have hh : within s 0 40 := h.hdr
  have G := fun f => get_set (g := g) (v := v) h.ok hh f
  rcases set_cases h.ok hh g v with ⟨g0, g1, g4, gf, e⟩ | ⟨er, h0, e⟩
  · have hw := hdr_f hh g0 g1
    have hl := fb_length v g0 g1
    have hok : Ok (lay s (0 + fat g) (fb g v)) := lay_ok h.ok (by have := in_row h.ok hw; omega) (fb_bytes g v)
    have hr := fat_in g0 g1
    rw [e] at G hg ⊢
    have g3 := hg rfl
    have off := fun (f : Int) (f0 : 0 ≤ f) (f1 : f ≤ 11) (ne : f ≠ g) => fat_off f0 f1 g0 g1 ne
    have gt : ∀ y n : Int, 0 ≤ y → 0 ≤ n → (y + n ≤ 0 + fat g ∨ 0 + fat g + fw g ≤ y) → got (lay s (0 + fat g) (fb g v)) y n = got s y n := fun y n hy hn hf => got_lay_off h.ok (by rw [hl]; exact hw) hy hn (by rw [hl]; exact hf)
    have cas_off : fat g + fw g ≤ 16 ∨ 24 ≤ fat g := by
      unfold fat fw
      repeat' split
      all_goals omega
    have one : ∀ i : Nat, i < [(0 : Int)].length → i = 0 := fun i hi => by simpa using hi
    refine ⟨hok, h.pos, h.size, h.inn, h.most, h.lens, h.bytes, ?_, ?_, ?_, ?_, ?_, ?_, fun i hi => ?_, fun i hi => ?_, h.all⟩
    · show itemGet _ 0 5 = _
      rw [G 5]
      by_cases e5 : g = 5
      · rw [if_pos ⟨rfl, e5.symm⟩, if_pos ⟨rfl, e5⟩]
      · rw [if_neg (fun q => e5 q.2.symm), if_neg (fun q => e5 q.2)]; exact h.fex
    · show itemGet _ 0 6 = _
      rw [G 6]
      by_cases e6 : g = 6
      · rw [if_pos ⟨rfl, e6.symm⟩, if_pos ⟨rfl, e6⟩]
      · rw [if_neg (fun q => e6 q.2.symm), if_neg (fun q => e6 q.2)]; exact h.ffl
    · show itemGet _ 0 7 = _
      rw [G 7, if_neg (fun q => g3.2.1 q.2.symm)]; exact h.fvl
    · show itemGet _ 0 8 = _
      rw [G 8, if_neg (fun q => g3.2.2 q.2.symm)]; exact h.fkl
    · show number _ (0 + 16) 8 = _
      rw [number_got (s := s) (t := lay s (0 + fat g) (fb g v)) rfl (gt (0 + 16) 8 (by decide) (by decide) (by omega))]; exact h.fcas
    · show got _ (0 + 40) _ = _
      rw [gt _ _ (by decide) (by omega) (by omega)]; exact h.k
    · have := one i hi
      subst this
      have o3 := off 3 (by decide) (by decide) (fun q => g3.1 q.symm)
      have f3 : fat 3 = 12 ∧ fw 3 = 4 := by decide
      show place _ (0 + 12) = _
      rw [place_is (s := s) (t := lay s (0 + fat g) (fb g v)) rfl (gt (0 + 12) 4 (by decide) (by decide) (by omega))]
      exact h.chain 0 hi
    · have := one i hi
      subst this
      have hp : partP [0] key.length 0 = 40 + key.length := by unfold partP; rw [if_pos rfl]; show (0 : Int) + 40 + _ = _; omega
      rw [← h.v 0 hi, hp]
      refine gt _ _ (by omega) ?_ (by omega)
      have m := (offV_mono (tc := 1024) (kl := key.length) (vl := val.length) (by have := h.lens; omega) (by decide) (by omega) 0).2.2.1
      omega
  · rw [e] at hg ⊢
    rw [if_neg (fun q => h0 q.1), if_neg (fun q => h0 q.1)]
    exact h
end Go.Proofs.Ytolpjgpimholcaa.ArenaPure

/- The walk of the law ItemFields: it returns true at any item, field and number. -/
namespace Go.Proofs.Ytolpjgpimholcaa.Item
open Go Go.RowKit Go.Proofs.Ytolpjgpimholcaa.Mem Go.Proofs.Ytolpjgpimholcaa.CodecPure Go.Proofs.Ytolpjgpimholcaa.ArenaPure Go.Proofs.Ytolpjgpimholcaa.Codec Go.Proofs.Ytolpjgpimholcaa.Arena Go.Proofs.Ytolpjgpimholcaa.NeedPure Go.Proofs.Ytolpjgpimholcaa.Need
set_option linter.unusedVariables false
set_option maxRecDepth 100000
theorem small3 : (IntKind.u64.wrap 3).tmod 6 = ((3 : Nat) : Int) ∧ IntKind.u64.wrap 3 % 6 = ((3 : Nat) : Int) := by decide
theorem made5_own : (madeS 5).own = [1, 1, 1, 1, -1] := by decide +kernel
theorem need_one {k v : Nat} (hk : 1 ≤ k ∧ k ≤ 32) (hv : v ≤ 900) : needC [1024] k v = (((0 : Nat) : Int), ((0 : Nat) : Int), 0) := by
  unfold needC
  rw [if_neg (by omega), if_neg (by simp [last])]
  have e : forC [1024] (40 + (k : Int) + v) = (((0 : Nat) : Int), 0) := forC_some _ _ (by omega) 0 (by simp) (fun j hj => by omega) (by show (1024 : Int) ≥ _; omega)
  rw [e]
  rfl
theorem fine_one {s : St} (hs : Ok s) (ho : s.own = [1, 1, 1, 1, -1]) {K V : ByteArray} {fl ex cas : Int} (hk : 1 ≤ K.size ∧ K.size ≤ 32) (hv : V.size ≤ 900) (hn : ItemArg K V fl ex cas) : Fine s 1024 [0] (bs K) (bs V) ex fl cas := by
  refine ⟨hs, by simp, by rw [bs_length]; omega, fun p hp => ?_, fun i j hi hj e => ?_, by simp, by rw [bs_length, bs_length]; omega, ⟨bs_bytes _, bs_bytes _⟩, u32_wf hn.ex, u32_wf hn.fl, u64_wf hn.cas⟩
  · simp only [List.mem_singleton] at hp
    subst hp
    exact within_first (by rw [ho]; decide) (by rw [ho]; decide) (by decide) (by decide) (by decide) (by decide)
  · simp at hi hj; omega
theorem one_range : ∀ x ∈ [(1024 : Int)], -9223372036854775808 ≤ x ∧ x ≤ 9223372036854775807 := fun x hx => by
  simp only [List.mem_singleton] at hx
  omega
/-- the first k fields that were got -/
def gots (t : St) (k : Nat) : List Int := (List.range 12).map fun j : Nat => if j < k then (itemGet t 0 j).1 else 0
theorem gots_zero (t : St) : gots t 0 = List.replicate 12 0 := by
  unfold gots
  simp
  decide
theorem gots_len (t : St) (k : Nat) : (gots t k).length = 12 := by simp [gots]
theorem gots_get (t : St) {k j : Nat} (h : j < 12) : (gots t k).getD j 0 = if j < k then (itemGet t 0 j).1 else 0 := by
  unfold gots
  rw [List.getD_eq_getElem?_getD, List.getElem?_map, List.getElem?_range h]
  rfl
theorem gots_set (t : St) {k : Nat} (hk : k < 12) : (gots t k).set k (itemGet t 0 k).1 = gots t (k + 1) := by
  apply List.ext_getElem?
  intro i
  rw [List.getElem?_set]
  by_cases e : k = i
  · subst e
    rw [if_pos rfl, gots_len, if_pos hk]
    unfold gots
    rw [List.getElem?_map, List.getElem?_range hk]
    simp
  · rw [if_neg e]
    unfold gots
    by_cases hi : i < 12
    · rw [List.getElem?_map, List.getElem?_map, List.getElem?_range hi]
      show some _ = some _
      congr 1
      show (if i < k then _ else _) = (if i < k + 1 then _ else _)
      by_cases h2 : i < k
      · rw [if_pos h2, if_pos (by omega)]
      · rw [if_neg h2, if_neg (by omega)]
    · rw [List.getElem?_eq_none (by simp; omega), List.getElem?_eq_none (by simp; omega)]
theorem fits_u32 {g v : Int} (h : Fits g v) (hg : g = 5 ∨ g = 6) : IntKind.u32.wrap v = v := by
  have e4 : (fw g).toNat = 4 := by rcases hg with rfl | rfl <;> decide
  unfold Fits at h
  rw [if_neg (by omega), e4] at h
  rw [u32_wrap]
  omega
theorem gots_store {w : World} {b : Nat} {t : St} {k : Nat} {ty : TypeId} (h : w.heap[b]? = some (.cells (nums .i64 (gots t k)).toArray ty (0, 0))) (hk : k < 12) : (w.setCell ⟨b, k, none⟩ (.int .i64 (itemGet t 0 k).1)).heap[b]? = some (.cells (nums .i64 (gots t (k + 1))).toArray ty (0, 0)) := by
  rw [setCell_row h, setRow_heap w _ _ _ _ (0, 0) h, ← gots_set t hk]
  congr 2
  unfold nums
  rw [List.map_set]
  apply Array.ext'
  simp
set_option maxHeartbeats 1000000 in
theorem fields_walk (K V : ByteArray) (fl ex cas : Int) (fd v : Int) (w : World) (hi : ItemArg K V fl ex cas) (wf1 : (Lit.int .i64 fd).wf = true) (wf2 : (Lit.int .i64 v).wf = true) :
    Calls Try.prog 4 #[.agg #[.string K, .string V, .int .u32 fl, .int .u32 ex, .int .u64 cas], (.int .i64 fd), (.int .i64 v)] w fun e w' => e = .returned (.bool true) ∧ Below w.heap.size w w' := by
  have vr := Lib.hid (bounds_i64 wf2)
  have hk := hi.k
  have hv := hi.v
  have XB := heap_alloc_at w (.cells #[.string K, .string V, .int .u32 fl, .int .u32 ex, .int .u64 cas] 25)
  have C0 := Chg.alloc (fun _ => False) w (.cells #[.string K, .string V, .int .u32 fl, .int .u32 ex, .int .u64 cas] 25)
  clear wf1 wf2
  replace hi := Lib.hid hi
  replace XB := Lib.hid XB
  replace C0 := Lib.hid C0
  go_enter Try.func4, Try.ntmps4
  go_wp2_with fail
  refine (works_calls _).mono ?_
  rintro e w1 ⟨rfl, hc⟩
  have C1 := Lib.hid (C0.out.trans hc)
  have XB1 := hc.keep XB.out id
  clear hc XB C0
  have xlt : Hid (w.heap.size < w1.heap.size) := blk_lt XB1
  obtain ⟨xb, hxb, hx0⟩ : ∃ xb, w.heap.size = xb ∧ w.heap.size ≤ xb := ⟨_, rfl, Nat.le_refl _⟩
  rw [hxb] at XB1 xlt ⊢
  have c0 : w1.cell? ⟨xb, 0, none⟩ = some (.string K) := by rw [blk_cell XB1]; rfl
  have c1 : w1.cell? ⟨xb, 1, none⟩ = some (.string V) := by rw [blk_cell XB1]; rfl
  replace XB1 := Lib.hid XB1
  replace hx0 := Lib.hid hx0
  replace hxb := Lib.hid hxb
  by_cases ha : 1 ≤ K.size ∧ K.size ≤ 32 ∧ V.size ≤ 900
  · obtain ⟨ha1, ha2, ha3⟩ := ha
    have b1 : ¬ (K.size : Int) < 1 := by omega
    have b2 : ¬ (32 : Int) < K.size := by omega
    have b3 : ¬ (900 : Int) < V.size := by omega
    go_wp2_with fail
    refine (made_calls 3 w1 3 (by decide) small3.1 small3.2).mono ?_
    rintro e w4 ⟨a, r, rfl, T⟩
    have H4 := Lib.hid T.here
    have C4 : Hid (Chg (fun _ => False) w1 w4) := T.here.chg.mono fun b h1 h2 => by omega
    have XB4 := Lib.hid (C4.out.keep XB1.out id)
    clear T XB1 c0 c1
    have CA := Chg.alloc (fun _ => False) w4 (.cells #[(.int .i64 1024)] 3)
    have CB := Chg.alloc (fun _ => False) (w4.alloc (.cells #[(.int .i64 1024)] 3)) (.cells #[(.int .i64 0)] 3)
    have S1 : Sl (w4.alloc (.cells #[(.int .i64 1024)] 3)) .i64 (some ⟨w4.heap.size, 0, none⟩) [1024] := sl_lit w4 .i64 [1024] 3 (0, 0)
    have P1 : Sl ((w4.alloc (.cells #[(.int .i64 1024)] 3)).alloc (.cells #[(.int .i64 0)] 3)) .i64 (some ⟨w4.heap.size + 1, 0, none⟩) [0] := by
      have := sl_lit (w4.alloc (.cells #[(.int .i64 1024)] 3)) .i64 [0] 3 (0, 0)
      rwa [World.size_alloc] at this
    have S2 := Lib.hid (S1.chg CB fun _ _ => id)
    have XB5 := CB.keep (CA.keep XB4.out id) id
    have H5 := Lib.hid (H4.out.fresh (CA.trans CB))
    have sz5 : Hid (((w4.alloc (.cells #[(.int .i64 1024)] 3)).alloc (.cells #[(.int .i64 0)] 3)).heap.size = w4.heap.size + 2) := by show _ = _; simp only [World.size_alloc]
    have pbl : Hid (∀ b ∈ a.pb, b < w4.heap.size) := H4.out.pb_lt
    have x0 : ((w4.alloc (.cells #[(.int .i64 1024)] 3)).alloc (.cells #[(.int .i64 0)] 3)).cell? ⟨xb, 0, none⟩ = some (.string K) := by rw [blk_cell XB5]; rfl
    have x1 : ((w4.alloc (.cells #[(.int .i64 1024)] 3)).alloc (.cells #[(.int .i64 0)] 3)).cell? ⟨xb, 1, none⟩ = some (.string V) := by rw [blk_cell XB5]; rfl
    have x2 : ((w4.alloc (.cells #[(.int .i64 1024)] 3)).alloc (.cells #[(.int .i64 0)] 3)).cell? ⟨xb, 2, none⟩ = some (.int .u32 fl) := by rw [blk_cell XB5]; rfl
    have x3 : ((w4.alloc (.cells #[(.int .i64 1024)] 3)).alloc (.cells #[(.int .i64 0)] 3)).cell? ⟨xb, 3, none⟩ = some (.int .u32 ex) := by rw [blk_cell XB5]; rfl
    have x4 : ((w4.alloc (.cells #[(.int .i64 1024)] 3)).alloc (.cells #[(.int .i64 0)] 3)).cell? ⟨xb, 4, none⟩ = some (.int .u64 cas) := by rw [blk_cell XB5]; rfl
    replace XB5 := Lib.hid XB5
    replace P1 := Lib.hid P1
    clear CA CB S1 XB4 H4
    go_wp2_with fail
    generalize (w4.alloc (.cells #[(.int .i64 1024)] 3)).alloc (.cells #[(.int .i64 0)] 3) = w5 at P1 S2 XB5 H5 sz5 x0 x1 x2 x3 x4 ⊢
    have C5 : Hid (w1.heap.size ≤ w4.heap.size) := C4.out.size
    generalize w4.heap.size = tb at P1 S2 sz5 pbl C5 ⊢
    refine (to_calls K V fl ex cas w5).mono ?_
    rintro e w6 ⟨rfl, hc⟩
    have H6 := Lib.hid (H5.out.fresh hc)
    have S6 := Lib.hid (S2.out.chg hc fun _ _ => id)
    have P6 := P1.out.chg hc fun _ _ => id
    have XB6 := Lib.hid (hc.keep XB5.out id)
    clear hc x0 x1 x2 x3 x4 H5 S2 P1 XB5 C4
    go_wp2_with fail
    have FB := fine_one (K := K) (V := V) H6.out.lies.ok made5_own ⟨ha1, ha2⟩ ha3 hi.out
    have hoff : offV 1024 (bs K).length (bs V).length [(0 : Int)].length = (bs V).length := by
      rw [bs_length, bs_length]
      show min (V.size : Int) (1024 - 40 - K.size) = V.size
      omega
    have WO := write_ok H6.out.lies [1024] (some ⟨tb, 0, none⟩) 1 S6.out (by simp) one_range [0] (.slice (some ⟨tb + 1, 0, none⟩) 1 1) (SlV.of P6 rfl (Nat.le_refl _) (by decide) fun e => by cases e) K V ex fl cas 0 0 1024 (need_one ⟨ha1, ha2⟩ ha3) (by simp) rfl rfl
      (fun ad e hb => by injection e with e; subst e; have h1 := pbl.out _ hb; exact absurd (show tb < tb from h1) (by omega))
      (fun A' n c e ad e2 hb => by injection e with e1 _ _; rw [e2] at e1; injection e1 with e1; subst e1; have h1 := pbl.out _ hb; exact absurd (show tb + 1 < tb from h1) (by omega)) FB hoff
    have RI := Lib.hid (fun (t : St) (h : ItemK (madeS 5) t 1024 [0] (bs K) (bs V) ex fl cas [(0 : Int)].length) => Fine.read FB hoff h)
    refine WO.mono ?_
    rintro e w7 ⟨t, rfl, l7, k7, -, c7⟩
    have IA := Lib.hid (RI.out t k7)
    have H7 := Lib.hid (H6.out.now l7 c7)
    have S7 := Lib.hid (S6.out.chg c7 fun ad e hb => by injection e with e; subst e; have h1 := pbl.out _ hb; exact absurd (show tb < tb from h1) (by omega))
    have XB7 := Lib.hid (c7.keep XB6.out fun hb => by have h1 := H6.out.low.2.2 _ hb; have := xlt.out; omega)
    clear l7 k7 c7 WO RI FB hoff H6 S6 P6 XB6
    have CW := Chg.alloc (fun _ => False) w7 (.cells (nums .i64 (gots t 0)).toArray 45)
    have GB8 := heap_alloc_at w7 (.cells (nums .i64 (gots t 0)).toArray 45)
    have H8 := H7.out.fresh CW
    have S8 := S7.out.chg CW fun _ _ => id
    have XB8 := CW.keep XB7.out id
    have AL := H7.out.lt
    have xl7 := blk_lt XB7.out
    have tl7 : tb < w7.heap.size := by
      obtain ⟨ad, e, h⟩ := S7.out 0 (by simp)
      injection e with e
      subst e
      rw [add_zero] at h
      exact World.block_lt_of_cell? w7 _ h
    rw [gots_zero] at GB8 H8 S8 XB8
    generalize hwb : w7.heap.size = wb at GB8 AL xl7 tl7
    have SEP : Hid (¬ a.g = wb ∧ ¬ a.ps = wb ∧ ∀ b ∈ a.pb, ¬ b = wb) := ⟨by omega, by omega, fun b hb h => by have := AL.2.2 b hb; omega⟩
    have SEP2 : Hid (¬ xb = wb ∧ ¬ tb = wb ∧ w1.heap.size ≤ wb) := ⟨by omega, by omega, by have := C5.out; omega⟩
    replace GB8 := Lib.hid GB8
    replace H8 := Lib.hid H8
    replace S8 := Lib.hid S8
    replace XB8 := Lib.hid XB8
    replace hwb := Lib.hid hwb
    clear CW AL xl7 tl7 H7 S7 XB7
    go_wp2_with fail
    rw [hwb.out]
    go_loopg [12] 12 (fun g i wr => ∃ k : Nat, i = .int .i64 k ∧ g = 12 - k ∧ k ≤ 12 ∧ Hid (Here w1.heap.size w1 wr a t) ∧ Hid (wr.heap[wb]? = some (.cells (nums .i64 (gots t k)).toArray 45 (0, 0))) ∧ Hid (wr.heap[xb]? = some (.cells #[.string K, .string V, .int .u32 fl, .int .u32 ex, .int .u64 cas] 25 (0, 0))) ∧ Hid (Sl wr .i64 (some ⟨tb, 0, none⟩) [1024]))
    case atStart => exact ⟨0, rfl, rfl, by omega, H8.out, by rw [gots_zero]; exact GB8.out, XB8.out, S8.out⟩
    case round =>
      clear H8 GB8 XB8 S8
      obtain ⟨k, rfl, hg, hkm, H8, GB8, XB8, S8⟩ := hrel
      replace hg := Lib.hid hg
      by_cases h1 : k < 12
      · have h1' : (k : Int) < 12 := by omega
        have GC := Lib.hid (get_calls H8.out.lies 0 k (by decide))
        have GS := Lib.hid (fun (W : World) h => gots_store (w := W) (b := wb) (t := t) (k := k) (ty := 45) h h1)
        generalize (itemGet t 0 k).1 = x at GC GS
        generalize (itemGet t 0 k).2 = er at GC
        go_wp2_with fail
        refine GC.out.mono ?_
        rintro e w9 ⟨rfl, hc⟩
        have H9 := Lib.hid (H8.out.fresh hc)
        have GB9 := hc.keep GB8.out id
        have XB9 := Lib.hid (hc.keep XB8.out id)
        have S9 := Lib.hid (S8.out.chg hc fun _ _ => id)
        have gk : w9.cell? ⟨wb, k, none⟩ = some (.int .i64 ((gots t k).getD k 0)) := by
          rw [blk_cell GB9, List.getElem?_toArray]
          exact nums_get .i64 _ k (by rw [gots_len]; exact h1)
        generalize (gots t k).getD k 0 = y at gk
        have fz := blk_frozen GB9 k
        have CS : Chg (fun y => y = wb) w9 (w9.setCell ⟨wb, k, none⟩ (.int .i64 x)) := Chg.setCell w9 ⟨wb, k, none⟩ _ rfl
        have GBn := Lib.hid (GS.out _ GB9)
        have Hn := Lib.hid (H9.out.apart CS SEP.out fun y e => e ▸ SEP2.out.2.2)
        have XBn := Lib.hid (CS.keep XB9.out SEP2.out.1)
        have Sn := Lib.hid (S9.out.chg CS fun ad e => by injection e with e; subst e; exact SEP2.out.2.1)
        clear hc GC H8 GB8 XB8 S8 GB9 H9 XB9 S9 CS GS
        go_wp2_with fail
        go_roundg (12 - (k + 1))
        case measure => have := hg.out; omega
        case rel => exact ⟨k + 1, rfl, rfl, by omega, Hn.out, GBn.out, XBn.out, Sn.out⟩
      · have h1' : ¬ (k : Int) < 12 := by omega
        have e : k = 12 := by omega
        subst e
        have SC := set_calls H8.out.lies 0 fd v (by decide) vr.out
        have hh : within t 0 40 := IA.out.hdr
        have GT := Lib.hid (fun f => get_set (g := fd) (v := v) IA.out.ok hh f)
        have SI := Lib.hid (set_item (g := fd) (v := v) IA.out (by rw [bs_length]; exact ha3))
        have FI : Hid ((itemSet t 0 fd v).2 = 0 → Fits fd v) := fun h0 => by
          rcases set_cases IA.out.ok hh fd v with ⟨-, -, -, hf, -⟩ | ⟨e', h, e⟩
          · exact hf
          · rw [e] at h0
            exact absurd h0 h
        replace SC := Lib.hid SC
        clear hg hh
        go_wp2_with fail
        refine SC.out.mono ?_
        rintro e w9 ⟨rfl, l9, c9⟩
        have H9 := Lib.hid (H8.out.now l9 c9)
        have pbo : ∀ b ∈ a.pb, b ≠ xb ∧ b ≠ tb ∧ b ≠ wb := fun b hb => ⟨fun e => by have h1 := H8.out.low.2.2 _ hb; have := xlt.out; omega, fun e => by have := pbl.out _ hb; omega, fun e => SEP.out.2.2 _ hb e⟩
        have GB9 := Lib.hid (c9.keep GB8.out fun hb => (pbo _ hb).2.2 rfl)
        have XB9 := Lib.hid (c9.keep XB8.out fun hb => (pbo _ hb).1 rfl)
        have S9 := Lib.hid (S8.out.chg c9 fun ad e hb => by injection e with e; subst e; exact (pbo _ hb).2.1 rfl)
        obtain ⟨er, her⟩ : ∃ er, (itemSet t 0 fd v).2 = er := ⟨_, rfl⟩
        obtain ⟨t2, ht2⟩ : ∃ t2, (itemSet t 0 fd v).1 = t2 := ⟨_, rfl⟩
        rw [her] at GT SI ⊢
        rw [ht2] at GT SI H9
        clear l9 c9 SC H8 GB8 XB8 S8 pbo
        have TC : Hid (∀ W, Calls Try.prog 18 #[.agg #[.string K, .string V, .int .u32 fl, .int .u32 ex, .int .u64 cas]] W fun e w' => e = .returned (.agg #[.string K, .string V, .int .u32 fl, .int .u32 ex, .int .u64 cas]) ∧ Chg (fun _ => False) W w') := fun W => to_calls K V fl ex cas W
        have LT : Hid (∀ W s, Here w1.heap.size w1 W a s → Chg (fun b => w.heap.size ≤ b) w W) := fun W s h => (C1.out.mono fun _ _ h => h.elim).trans (h.chg.mono fun b _ hb => Nat.le_trans C1.out.size hb)
        rw [her] at FI
        clear her
        go_wp2_with fail
        go_loopg [14] 12 (fun g i wr => ∃ k : Nat, i = .int .i64 k ∧ g = 12 - k ∧ k ≤ 12 ∧ Hid (Here w1.heap.size w1 wr a t2) ∧ Hid (wr.heap[wb]? = some (.cells (nums .i64 (gots t 12)).toArray 45 (0, 0))) ∧ Hid (wr.heap[xb]? = some (.cells #[.string K, .string V, .int .u32 fl, .int .u32 ex, .int .u64 cas] 25 (0, 0))) ∧ Hid (Sl wr .i64 (some ⟨tb, 0, none⟩) [1024]))
        case atStart => exact ⟨0, rfl, rfl, by omega, H9.out, GB9.out, XB9.out, S9.out⟩
        case round =>
          clear H9 GB9 XB9 S9
          obtain ⟨k, rfl, hg, hkm, H9, GB9, XB9, S9⟩ := hrel
          replace hg := Lib.hid hg
          by_cases h1 : k < 12
          · have h1' : (k : Int) < 12 := by omega
            have GC := get_calls H9.out.lies 0 k (by decide)
            have GK := GT.out k
            have gk : wr.cell? ⟨wb, k, none⟩ = some (.int .i64 ((gots t 12).getD k 0)) := by
              rw [blk_cell GB9.out, List.getElem?_toArray]
              exact nums_get .i64 _ k (by rw [gots_len]; exact h1)
            rw [gots_get t h1, if_pos h1] at gk
            rw [GK] at GC
            by_cases e0 : er = 0
            · have te : (er == 0) = true := by rw [e0]; rfl
              by_cases e1 : (k : Int) = fd
              · have tf : ((k : Int) == fd) = true := by rw [e1]; exact beq_self_eq_true _
                rw [if_pos ⟨e0, e1⟩] at GC
                replace GC := Lib.hid GC
                generalize (itemGet t 0 k).1 = x at gk
                clear e0 e1 GK
                go_wp2_with fail
                refine GC.out.mono ?_
                rintro e w10 ⟨rfl, hc⟩
                have H10 := Lib.hid (H9.out.fresh hc)
                have GB10 := Lib.hid (hc.keep GB9.out id)
                have XB10 := Lib.hid (hc.keep XB9.out id)
                have S10 := Lib.hid (S9.out.chg hc fun _ _ => id)
                have gk' := hc.cell gk id
                clear hc GC H9 GB9 XB9 S9 gk
                go_wp2_with fail
                go_roundg (12 - (k + 1))
                case measure => have := hg.out; omega
                case rel => exact ⟨k + 1, rfl, rfl, by omega, H10.out, GB10.out, XB10.out, S10.out⟩
              · have tf : ((k : Int) == fd) = false := by rw [beq_eq_false_iff_ne]; exact e1
                rw [if_neg (fun q => e1 q.2)] at GC
                generalize (itemGet t 0 k).1 = x at gk GC
                generalize (itemGet t 0 k).2 = er2 at GC
                replace GC := Lib.hid GC
                clear e0 e1 GK
                go_wp2_with fail
                refine GC.out.mono ?_
                rintro e w10 ⟨rfl, hc⟩
                have H10 := Lib.hid (H9.out.fresh hc)
                have GB10 := Lib.hid (hc.keep GB9.out id)
                have XB10 := Lib.hid (hc.keep XB9.out id)
                have S10 := Lib.hid (S9.out.chg hc fun _ _ => id)
                have gk' := hc.cell gk id
                clear hc GC H9 GB9 XB9 S9 gk
                go_wp2_with fail
                go_roundg (12 - (k + 1))
                case measure => have := hg.out; omega
                case rel => exact ⟨k + 1, rfl, rfl, by omega, H10.out, GB10.out, XB10.out, S10.out⟩
            · have te : (er == 0) = false := by rw [beq_eq_false_iff_ne]; exact e0
              rw [if_neg (fun q => e0 q.1)] at GC
              generalize (itemGet t 0 k).1 = x at gk GC
              generalize (itemGet t 0 k).2 = er2 at GC
              replace GC := Lib.hid GC
              clear e0 GK
              go_wp2_with fail
              refine GC.out.mono ?_
              rintro e w10 ⟨rfl, hc⟩
              have H10 := Lib.hid (H9.out.fresh hc)
              have GB10 := Lib.hid (hc.keep GB9.out id)
              have XB10 := Lib.hid (hc.keep XB9.out id)
              have S10 := Lib.hid (S9.out.chg hc fun _ _ => id)
              have gk' := hc.cell gk id
              clear hc GC H9 GB9 XB9 S9 gk
              go_wp2_with fail
              go_roundg (12 - (k + 1))
              case measure => have := hg.out; omega
              case rel => exact ⟨k + 1, rfl, rfl, by omega, H10.out, GB10.out, XB10.out, S10.out⟩
          · have h1' : ¬ (k : Int) < 12 := by omega
            have e : k = 12 := by omega
            subst e
            have F := Lib.hid ((LT.out _ _ H9.out).below (B := w.heap.size) (Nat.le_refl _) fun _ h => h)
            clear hg GT GB9
            by_cases e0 : er = 0
            · have te : (er == 0) = true := by rw [e0]; rfl
              by_cases e3 : fd = 3
              · have t3 : (fd == 3) = true := by rw [e3]; rfl
                clear e0 e3
                go_wp2_with fail
                go_ret
                exact ⟨rfl, F.out⟩
              · have t3 : (fd == 3) = false := by rw [beq_eq_false_iff_ne]; exact e3
                by_cases e7 : fd = 7
                · have t7 : (fd == 7) = true := by rw [e7]; rfl
                  clear e0 e3 e7
                  go_wp2_with fail
                  go_ret
                  exact ⟨rfl, F.out⟩
                · have t7 : (fd == 7) = false := by rw [beq_eq_false_iff_ne]; exact e7
                  by_cases e8 : fd = 8
                  · have t8 : (fd == 8) = true := by rw [e8]; rfl
                    clear e0 e3 e7 e8
                    go_wp2_with fail
                    go_ret
                    exact ⟨rfl, F.out⟩
                  · have t8 : (fd == 8) = false := by rw [beq_eq_false_iff_ne]; exact e8
                    have hg3 : er = 0 → fd ≠ 3 ∧ fd ≠ 7 ∧ fd ≠ 8 := fun _ => ⟨e3, e7, e8⟩
                    have IA2 := SI.out hg3
                    have FV := FI.out e0
                    by_cases e5 : fd = 5
                    · have t5 : (fd == 5) = true := by rw [e5]; rfl
                      have t6 : (fd == 6) = false := by rw [beq_eq_false_iff_ne]; omega
                      rw [if_pos ⟨e0, e5⟩, if_neg (fun q => by omega)] at IA2
                      have cv : IntKind.u32.wrap v = v := fits_u32 FV (.inl e5)
                      replace IA2 := Lib.hid IA2
                      clear e0 e3 e7 e8 e5 FV hg3
                      have RD := read_ok H9.out.lies IA2.out [1024] (some ⟨tb, 0, none⟩) 1 S9.out (by simp) one_range 0 0 (by rw [bs_length, bs_length]; exact need_one ⟨ha1, ha2⟩ ha3) (by simp) rfl (by decide) rfl
                      unfold rdV at RD
                      rw [str_bs, str_bs] at RD
                      replace RD := Lib.hid RD
                      clear F
                      go_wp2_with fail
                      refine RD.out.mono ?_
                      rintro e w10 ⟨rfl, hc⟩
                      have CY : Chg (fun _ => False) w10 (w10.alloc (.cells #[.string K, .string V, .int .u32 fl, .int .u32 v, .int .u64 cas] 36)) := Chg.alloc _ _ _
                      have YB11 := Lib.hid (heap_alloc_at w10 (.cells #[.string K, .string V, .int .u32 fl, .int .u32 v, .int .u64 cas] 36))
                      have XB11 := CY.keep (hc.keep XB9.out id) id
                      have x0 : (w10.alloc (.cells #[.string K, .string V, .int .u32 fl, .int .u32 v, .int .u64 cas] 36)).cell? ⟨xb, 0, none⟩ = some (.string K) := by rw [blk_cell XB11]; rfl
                      have x1 : (w10.alloc (.cells #[.string K, .string V, .int .u32 fl, .int .u32 v, .int .u64 cas] 36)).cell? ⟨xb, 1, none⟩ = some (.string V) := by rw [blk_cell XB11]; rfl
                      have x2 : (w10.alloc (.cells #[.string K, .string V, .int .u32 fl, .int .u32 v, .int .u64 cas] 36)).cell? ⟨xb, 2, none⟩ = some (.int .u32 fl) := by rw [blk_cell XB11]; rfl
                      have x3 : (w10.alloc (.cells #[.string K, .string V, .int .u32 fl, .int .u32 v, .int .u64 cas] 36)).cell? ⟨xb, 3, none⟩ = some (.int .u32 ex) := by rw [blk_cell XB11]; rfl
                      have x4 : (w10.alloc (.cells #[.string K, .string V, .int .u32 fl, .int .u32 v, .int .u64 cas] 36)).cell? ⟨xb, 4, none⟩ = some (.int .u64 cas) := by rw [blk_cell XB11]; rfl
                      have H11 := Lib.hid ((H9.out.fresh hc).fresh CY)
                      clear hc RD CY H9 XB9 S9 XB11 IA2
                      go_wp2_with fail
                      generalize w10.alloc (.cells #[.string K, .string V, .int .u32 fl, .int .u32 v, .int .u64 cas] 36) = w11 at YB11 H11 x0 x1 x2 x3 x4 ⊢
                      generalize w10.heap.size = yb at YB11 ⊢
                      refine (TC.out w11).mono ?_
                      rintro e w12 ⟨rfl, hc⟩
                      have YB12 := hc.keep YB11.out id
                      have ylt := blk_lt YB12
                      have zw := (LT.out _ _ (H11.out.fresh hc)).size
                      have CZ : Chg (fun _ => False) w12 (w12.alloc (.cells #[.string K, .string V, .int .u32 fl, .int .u32 ex, .int .u64 cas] 36)) := Chg.alloc _ _ _
                      have ZB13 := heap_alloc_at w12 (.cells #[.string K, .string V, .int .u32 fl, .int .u32 ex, .int .u64 cas] 36)
                      have YB13 := CZ.keep YB12 id
                      have H13 := Lib.hid ((H11.out.fresh hc).fresh CZ)
                      have H12 := Lib.hid (H11.out.fresh hc)
                      clear hc CZ YB11 H11 x0 x1 x2 x3 x4
                      generalize hzb : w12.heap.size = zb at ZB13 ylt zw
                      have fz := blk_frozen ZB13 3
                      have CS : Chg (fun _ => False) w12 (w12.alloc (.cells #[.string K, .string V, .int .u32 fl, .int .u32 v, .int .u64 cas] 36)) := Chg.alloc _ _ _
                      have YB14 := CS.keep YB12 id
                      have ZB14 : (w12.alloc (.cells #[.string K, .string V, .int .u32 fl, .int .u32 v, .int .u64 cas] 36)).heap[zb]? = some (.cells #[.string K, .string V, .int .u32 fl, .int .u32 v, .int .u64 cas] 36 (0, 0)) := by rw [← hzb]; exact heap_alloc_at w12 _
                      have z3' : (w12.alloc (.cells #[.string K, .string V, .int .u32 fl, .int .u32 ex, .int .u64 cas] 36)).cell? ⟨zb, 3, none⟩ = some (.int .u32 ex) := by rw [blk_cell ZB13]; rfl
                      have y0 : (w12.alloc (.cells #[.string K, .string V, .int .u32 fl, .int .u32 v, .int .u64 cas] 36)).cell? ⟨yb, 0, none⟩ = some (.string K) := by rw [blk_cell YB14]; rfl
                      have y1 : (w12.alloc (.cells #[.string K, .string V, .int .u32 fl, .int .u32 v, .int .u64 cas] 36)).cell? ⟨yb, 1, none⟩ = some (.string V) := by rw [blk_cell YB14]; rfl
                      have y2 : (w12.alloc (.cells #[.string K, .string V, .int .u32 fl, .int .u32 v, .int .u64 cas] 36)).cell? ⟨yb, 2, none⟩ = some (.int .u32 fl) := by rw [blk_cell YB14]; rfl
                      have y3 : (w12.alloc (.cells #[.string K, .string V, .int .u32 fl, .int .u32 v, .int .u64 cas] 36)).cell? ⟨yb, 3, none⟩ = some (.int .u32 v) := by rw [blk_cell YB14]; rfl
                      have y4 : (w12.alloc (.cells #[.string K, .string V, .int .u32 fl, .int .u32 v, .int .u64 cas] 36)).cell? ⟨yb, 4, none⟩ = some (.int .u64 cas) := by rw [blk_cell YB14]; rfl
                      have z0 : (w12.alloc (.cells #[.string K, .string V, .int .u32 fl, .int .u32 v, .int .u64 cas] 36)).cell? ⟨zb, 0, none⟩ = some (.string K) := by rw [blk_cell ZB14]; rfl
                      have z1 : (w12.alloc (.cells #[.string K, .string V, .int .u32 fl, .int .u32 v, .int .u64 cas] 36)).cell? ⟨zb, 1, none⟩ = some (.string V) := by rw [blk_cell ZB14]; rfl
                      have z2 : (w12.alloc (.cells #[.string K, .string V, .int .u32 fl, .int .u32 v, .int .u64 cas] 36)).cell? ⟨zb, 2, none⟩ = some (.int .u32 fl) := by rw [blk_cell ZB14]; rfl
                      have z3 : (w12.alloc (.cells #[.string K, .string V, .int .u32 fl, .int .u32 v, .int .u64 cas] 36)).cell? ⟨zb, 3, none⟩ = some (.int .u32 v) := by rw [blk_cell ZB14]; rfl
                      have z4 : (w12.alloc (.cells #[.string K, .string V, .int .u32 fl, .int .u32 v, .int .u64 cas] 36)).cell? ⟨zb, 4, none⟩ = some (.int .u64 cas) := by rw [blk_cell ZB14]; rfl
                      have F := Lib.hid ((LT.out _ _ (H12.out.fresh CS)).below (B := w.heap.size) (Nat.le_refl _) fun _ h => h)
                      clear H13 ylt zw YB13 ZB13 CS YB14 ZB14 YB12 H12
                      go_wp2_with fail
                      go_ret
                      exact ⟨rfl, F.out⟩
                    · have t5 : (fd == 5) = false := by rw [beq_eq_false_iff_ne]; exact e5
                      by_cases e6 : fd = 6
                      · have t6 : (fd == 6) = true := by rw [e6]; rfl
                        rw [if_neg (fun q => e5 q.2), if_pos ⟨e0, e6⟩] at IA2
                        have cv : IntKind.u32.wrap v = v := fits_u32 FV (.inr e6)
                        replace IA2 := Lib.hid IA2
                        clear e0 e3 e7 e8 e5 e6 FV hg3
                        have RD := read_ok H9.out.lies IA2.out [1024] (some ⟨tb, 0, none⟩) 1 S9.out (by simp) one_range 0 0 (by rw [bs_length, bs_length]; exact need_one ⟨ha1, ha2⟩ ha3) (by simp) rfl (by decide) rfl
                        unfold rdV at RD
                        rw [str_bs, str_bs] at RD
                        replace RD := Lib.hid RD
                        clear F
                        go_wp2_with fail
                        refine RD.out.mono ?_
                        rintro e w10 ⟨rfl, hc⟩
                        have CY : Chg (fun _ => False) w10 (w10.alloc (.cells #[.string K, .string V, .int .u32 v, .int .u32 ex, .int .u64 cas] 36)) := Chg.alloc _ _ _
                        have YB11 := Lib.hid (heap_alloc_at w10 (.cells #[.string K, .string V, .int .u32 v, .int .u32 ex, .int .u64 cas] 36))
                        have XB11 := CY.keep (hc.keep XB9.out id) id
                        have x0 : (w10.alloc (.cells #[.string K, .string V, .int .u32 v, .int .u32 ex, .int .u64 cas] 36)).cell? ⟨xb, 0, none⟩ = some (.string K) := by rw [blk_cell XB11]; rfl
                        have x1 : (w10.alloc (.cells #[.string K, .string V, .int .u32 v, .int .u32 ex, .int .u64 cas] 36)).cell? ⟨xb, 1, none⟩ = some (.string V) := by rw [blk_cell XB11]; rfl
                        have x2 : (w10.alloc (.cells #[.string K, .string V, .int .u32 v, .int .u32 ex, .int .u64 cas] 36)).cell? ⟨xb, 2, none⟩ = some (.int .u32 fl) := by rw [blk_cell XB11]; rfl
                        have x3 : (w10.alloc (.cells #[.string K, .string V, .int .u32 v, .int .u32 ex, .int .u64 cas] 36)).cell? ⟨xb, 3, none⟩ = some (.int .u32 ex) := by rw [blk_cell XB11]; rfl
                        have x4 : (w10.alloc (.cells #[.string K, .string V, .int .u32 v, .int .u32 ex, .int .u64 cas] 36)).cell? ⟨xb, 4, none⟩ = some (.int .u64 cas) := by rw [blk_cell XB11]; rfl
                        have H11 := Lib.hid ((H9.out.fresh hc).fresh CY)
                        clear hc RD CY H9 XB9 S9 XB11 IA2
                        go_wp2_with fail
                        generalize w10.alloc (.cells #[.string K, .string V, .int .u32 v, .int .u32 ex, .int .u64 cas] 36) = w11 at YB11 H11 x0 x1 x2 x3 x4 ⊢
                        generalize w10.heap.size = yb at YB11 ⊢
                        refine (TC.out w11).mono ?_
                        rintro e w12 ⟨rfl, hc⟩
                        have YB12 := hc.keep YB11.out id
                        have ylt := blk_lt YB12
                        have zw := (LT.out _ _ (H11.out.fresh hc)).size
                        have CZ : Chg (fun _ => False) w12 (w12.alloc (.cells #[.string K, .string V, .int .u32 fl, .int .u32 ex, .int .u64 cas] 36)) := Chg.alloc _ _ _
                        have ZB13 := heap_alloc_at w12 (.cells #[.string K, .string V, .int .u32 fl, .int .u32 ex, .int .u64 cas] 36)
                        have YB13 := CZ.keep YB12 id
                        have H13 := Lib.hid ((H11.out.fresh hc).fresh CZ)
                        have H12 := Lib.hid (H11.out.fresh hc)
                        clear hc CZ YB11 H11 x0 x1 x2 x3 x4
                        generalize hzb : w12.heap.size = zb at ZB13 ylt zw
                        have fz := blk_frozen ZB13 2
                        have CS : Chg (fun _ => False) w12 (w12.alloc (.cells #[.string K, .string V, .int .u32 v, .int .u32 ex, .int .u64 cas] 36)) := Chg.alloc _ _ _
                        have YB14 := CS.keep YB12 id
                        have ZB14 : (w12.alloc (.cells #[.string K, .string V, .int .u32 v, .int .u32 ex, .int .u64 cas] 36)).heap[zb]? = some (.cells #[.string K, .string V, .int .u32 v, .int .u32 ex, .int .u64 cas] 36 (0, 0)) := by rw [← hzb]; exact heap_alloc_at w12 _
                        have z2' : (w12.alloc (.cells #[.string K, .string V, .int .u32 fl, .int .u32 ex, .int .u64 cas] 36)).cell? ⟨zb, 2, none⟩ = some (.int .u32 fl) := by rw [blk_cell ZB13]; rfl
                        have y0 : (w12.alloc (.cells #[.string K, .string V, .int .u32 v, .int .u32 ex, .int .u64 cas] 36)).cell? ⟨yb, 0, none⟩ = some (.string K) := by rw [blk_cell YB14]; rfl
                        have y1 : (w12.alloc (.cells #[.string K, .string V, .int .u32 v, .int .u32 ex, .int .u64 cas] 36)).cell? ⟨yb, 1, none⟩ = some (.string V) := by rw [blk_cell YB14]; rfl
                        have y2 : (w12.alloc (.cells #[.string K, .string V, .int .u32 v, .int .u32 ex, .int .u64 cas] 36)).cell? ⟨yb, 2, none⟩ = some (.int .u32 v) := by rw [blk_cell YB14]; rfl
                        have y3 : (w12.alloc (.cells #[.string K, .string V, .int .u32 v, .int .u32 ex, .int .u64 cas] 36)).cell? ⟨yb, 3, none⟩ = some (.int .u32 ex) := by rw [blk_cell YB14]; rfl
                        have y4 : (w12.alloc (.cells #[.string K, .string V, .int .u32 v, .int .u32 ex, .int .u64 cas] 36)).cell? ⟨yb, 4, none⟩ = some (.int .u64 cas) := by rw [blk_cell YB14]; rfl
                        have z0 : (w12.alloc (.cells #[.string K, .string V, .int .u32 v, .int .u32 ex, .int .u64 cas] 36)).cell? ⟨zb, 0, none⟩ = some (.string K) := by rw [blk_cell ZB14]; rfl
                        have z1 : (w12.alloc (.cells #[.string K, .string V, .int .u32 v, .int .u32 ex, .int .u64 cas] 36)).cell? ⟨zb, 1, none⟩ = some (.string V) := by rw [blk_cell ZB14]; rfl
                        have z2 : (w12.alloc (.cells #[.string K, .string V, .int .u32 v, .int .u32 ex, .int .u64 cas] 36)).cell? ⟨zb, 2, none⟩ = some (.int .u32 v) := by rw [blk_cell ZB14]; rfl
                        have z3 : (w12.alloc (.cells #[.string K, .string V, .int .u32 v, .int .u32 ex, .int .u64 cas] 36)).cell? ⟨zb, 3, none⟩ = some (.int .u32 ex) := by rw [blk_cell ZB14]; rfl
                        have z4 : (w12.alloc (.cells #[.string K, .string V, .int .u32 v, .int .u32 ex, .int .u64 cas] 36)).cell? ⟨zb, 4, none⟩ = some (.int .u64 cas) := by rw [blk_cell ZB14]; rfl
                        have F := Lib.hid ((LT.out _ _ (H12.out.fresh CS)).below (B := w.heap.size) (Nat.le_refl _) fun _ h => h)
                        clear H13 ylt zw YB13 ZB13 CS YB14 ZB14 YB12 H12
                        go_wp2_with fail
                        go_ret
                        exact ⟨rfl, F.out⟩
                      · have t6 : (fd == 6) = false := by rw [beq_eq_false_iff_ne]; exact e6
                        rw [if_neg (fun q => e5 q.2), if_neg (fun q => e6 q.2)] at IA2
                        replace IA2 := Lib.hid IA2
                        clear e0 e3 e7 e8 e5 e6 FV hg3
                        have RD := read_ok H9.out.lies IA2.out [1024] (some ⟨tb, 0, none⟩) 1 S9.out (by simp) one_range 0 0 (by rw [bs_length, bs_length]; exact need_one ⟨ha1, ha2⟩ ha3) (by simp) rfl (by decide) rfl
                        unfold rdV at RD
                        rw [str_bs, str_bs] at RD
                        replace RD := Lib.hid RD
                        clear F
                        go_wp2_with fail
                        refine RD.out.mono ?_
                        rintro e w10 ⟨rfl, hc⟩
                        have CY : Chg (fun _ => False) w10 (w10.alloc (.cells #[.string K, .string V, .int .u32 fl, .int .u32 ex, .int .u64 cas] 36)) := Chg.alloc _ _ _
                        have YB11 := Lib.hid (heap_alloc_at w10 (.cells #[.string K, .string V, .int .u32 fl, .int .u32 ex, .int .u64 cas] 36))
                        have XB11 := CY.keep (hc.keep XB9.out id) id
                        have x0 : (w10.alloc (.cells #[.string K, .string V, .int .u32 fl, .int .u32 ex, .int .u64 cas] 36)).cell? ⟨xb, 0, none⟩ = some (.string K) := by rw [blk_cell XB11]; rfl
                        have x1 : (w10.alloc (.cells #[.string K, .string V, .int .u32 fl, .int .u32 ex, .int .u64 cas] 36)).cell? ⟨xb, 1, none⟩ = some (.string V) := by rw [blk_cell XB11]; rfl
                        have x2 : (w10.alloc (.cells #[.string K, .string V, .int .u32 fl, .int .u32 ex, .int .u64 cas] 36)).cell? ⟨xb, 2, none⟩ = some (.int .u32 fl) := by rw [blk_cell XB11]; rfl
                        have x3 : (w10.alloc (.cells #[.string K, .string V, .int .u32 fl, .int .u32 ex, .int .u64 cas] 36)).cell? ⟨xb, 3, none⟩ = some (.int .u32 ex) := by rw [blk_cell XB11]; rfl
                        have x4 : (w10.alloc (.cells #[.string K, .string V, .int .u32 fl, .int .u32 ex, .int .u64 cas] 36)).cell? ⟨xb, 4, none⟩ = some (.int .u64 cas) := by rw [blk_cell XB11]; rfl
                        have H11 := Lib.hid ((H9.out.fresh hc).fresh CY)
                        clear hc RD CY H9 XB9 S9 XB11 IA2
                        go_wp2_with fail
                        generalize w10.alloc (.cells #[.string K, .string V, .int .u32 fl, .int .u32 ex, .int .u64 cas] 36) = w11 at YB11 H11 x0 x1 x2 x3 x4 ⊢
                        generalize w10.heap.size = yb at YB11 ⊢
                        refine (TC.out w11).mono ?_
                        rintro e w12 ⟨rfl, hc⟩
                        have YB12 := hc.keep YB11.out id
                        have ylt := blk_lt YB12
                        have zw := (LT.out _ _ (H11.out.fresh hc)).size
                        have CZ : Chg (fun _ => False) w12 (w12.alloc (.cells #[.string K, .string V, .int .u32 fl, .int .u32 ex, .int .u64 cas] 36)) := Chg.alloc _ _ _
                        have ZB13 := heap_alloc_at w12 (.cells #[.string K, .string V, .int .u32 fl, .int .u32 ex, .int .u64 cas] 36)
                        have YB13 := CZ.keep YB12 id
                        have H13 := Lib.hid ((H11.out.fresh hc).fresh CZ)
                        clear hc CZ YB12 YB11 H11 x0 x1 x2 x3 x4
                        generalize hzb : w12.heap.size = zb at ZB13 ylt zw
                        have y0 : (w12.alloc (.cells #[.string K, .string V, .int .u32 fl, .int .u32 ex, .int .u64 cas] 36)).cell? ⟨yb, 0, none⟩ = some (.string K) := by rw [blk_cell YB13]; rfl
                        have y1 : (w12.alloc (.cells #[.string K, .string V, .int .u32 fl, .int .u32 ex, .int .u64 cas] 36)).cell? ⟨yb, 1, none⟩ = some (.string V) := by rw [blk_cell YB13]; rfl
                        have y2 : (w12.alloc (.cells #[.string K, .string V, .int .u32 fl, .int .u32 ex, .int .u64 cas] 36)).cell? ⟨yb, 2, none⟩ = some (.int .u32 fl) := by rw [blk_cell YB13]; rfl
                        have y3 : (w12.alloc (.cells #[.string K, .string V, .int .u32 fl, .int .u32 ex, .int .u64 cas] 36)).cell? ⟨yb, 3, none⟩ = some (.int .u32 ex) := by rw [blk_cell YB13]; rfl
                        have y4 : (w12.alloc (.cells #[.string K, .string V, .int .u32 fl, .int .u32 ex, .int .u64 cas] 36)).cell? ⟨yb, 4, none⟩ = some (.int .u64 cas) := by rw [blk_cell YB13]; rfl
                        have z0 : (w12.alloc (.cells #[.string K, .string V, .int .u32 fl, .int .u32 ex, .int .u64 cas] 36)).cell? ⟨zb, 0, none⟩ = some (.string K) := by rw [blk_cell ZB13]; rfl
                        have z1 : (w12.alloc (.cells #[.string K, .string V, .int .u32 fl, .int .u32 ex, .int .u64 cas] 36)).cell? ⟨zb, 1, none⟩ = some (.string V) := by rw [blk_cell ZB13]; rfl
                        have z2 : (w12.alloc (.cells #[.string K, .string V, .int .u32 fl, .int .u32 ex, .int .u64 cas] 36)).cell? ⟨zb, 2, none⟩ = some (.int .u32 fl) := by rw [blk_cell ZB13]; rfl
                        have z3 : (w12.alloc (.cells #[.string K, .string V, .int .u32 fl, .int .u32 ex, .int .u64 cas] 36)).cell? ⟨zb, 3, none⟩ = some (.int .u32 ex) := by rw [blk_cell ZB13]; rfl
                        have z4 : (w12.alloc (.cells #[.string K, .string V, .int .u32 fl, .int .u32 ex, .int .u64 cas] 36)).cell? ⟨zb, 4, none⟩ = some (.int .u64 cas) := by rw [blk_cell ZB13]; rfl
                        have F := Lib.hid ((LT.out _ _ H13.out).below (B := w.heap.size) (Nat.le_refl _) fun _ h => h)
                        clear H13 ylt zw YB13 ZB13
                        go_wp2_with fail
                        go_ret
                        exact ⟨rfl, F.out⟩
            · have te : (er == 0) = false := by rw [beq_eq_false_iff_ne]; exact e0
              have IA2 := SI.out (fun h => absurd h e0)
              rw [if_neg (fun q => e0 q.1), if_neg (fun q => e0 q.1)] at IA2
              replace IA2 := Lib.hid IA2
              clear e0
              have RD := read_ok H9.out.lies IA2.out [1024] (some ⟨tb, 0, none⟩) 1 S9.out (by simp) one_range 0 0 (by rw [bs_length, bs_length]; exact need_one ⟨ha1, ha2⟩ ha3) (by simp) rfl (by decide) rfl
              unfold rdV at RD
              rw [str_bs, str_bs] at RD
              replace RD := Lib.hid RD
              clear F
              go_wp2_with fail
              refine RD.out.mono ?_
              rintro e w10 ⟨rfl, hc⟩
              have CY : Chg (fun _ => False) w10 (w10.alloc (.cells #[.string K, .string V, .int .u32 fl, .int .u32 ex, .int .u64 cas] 36)) := Chg.alloc _ _ _
              have YB11 := Lib.hid (heap_alloc_at w10 (.cells #[.string K, .string V, .int .u32 fl, .int .u32 ex, .int .u64 cas] 36))
              have XB11 := CY.keep (hc.keep XB9.out id) id
              have x0 : (w10.alloc (.cells #[.string K, .string V, .int .u32 fl, .int .u32 ex, .int .u64 cas] 36)).cell? ⟨xb, 0, none⟩ = some (.string K) := by rw [blk_cell XB11]; rfl
              have x1 : (w10.alloc (.cells #[.string K, .string V, .int .u32 fl, .int .u32 ex, .int .u64 cas] 36)).cell? ⟨xb, 1, none⟩ = some (.string V) := by rw [blk_cell XB11]; rfl
              have x2 : (w10.alloc (.cells #[.string K, .string V, .int .u32 fl, .int .u32 ex, .int .u64 cas] 36)).cell? ⟨xb, 2, none⟩ = some (.int .u32 fl) := by rw [blk_cell XB11]; rfl
              have x3 : (w10.alloc (.cells #[.string K, .string V, .int .u32 fl, .int .u32 ex, .int .u64 cas] 36)).cell? ⟨xb, 3, none⟩ = some (.int .u32 ex) := by rw [blk_cell XB11]; rfl
              have x4 : (w10.alloc (.cells #[.string K, .string V, .int .u32 fl, .int .u32 ex, .int .u64 cas] 36)).cell? ⟨xb, 4, none⟩ = some (.int .u64 cas) := by rw [blk_cell XB11]; rfl
              have H11 := Lib.hid ((H9.out.fresh hc).fresh CY)
              clear hc RD CY H9 XB9 S9 XB11 IA2
              go_wp2_with fail
              generalize w10.alloc (.cells #[.string K, .string V, .int .u32 fl, .int .u32 ex, .int .u64 cas] 36) = w11 at YB11 H11 x0 x1 x2 x3 x4 ⊢
              generalize w10.heap.size = yb at YB11 ⊢
              refine (TC.out w11).mono ?_
              rintro e w12 ⟨rfl, hc⟩
              have YB12 := hc.keep YB11.out id
              have ylt := blk_lt YB12
              have zw := (LT.out _ _ (H11.out.fresh hc)).size
              have CZ : Chg (fun _ => False) w12 (w12.alloc (.cells #[.string K, .string V, .int .u32 fl, .int .u32 ex, .int .u64 cas] 36)) := Chg.alloc _ _ _
              have ZB13 := heap_alloc_at w12 (.cells #[.string K, .string V, .int .u32 fl, .int .u32 ex, .int .u64 cas] 36)
              have YB13 := CZ.keep YB12 id
              have H13 := Lib.hid ((H11.out.fresh hc).fresh CZ)
              clear hc CZ YB12 YB11 H11 x0 x1 x2 x3 x4
              generalize hzb : w12.heap.size = zb at ZB13 ylt zw
              have y0 : (w12.alloc (.cells #[.string K, .string V, .int .u32 fl, .int .u32 ex, .int .u64 cas] 36)).cell? ⟨yb, 0, none⟩ = some (.string K) := by rw [blk_cell YB13]; rfl
              have y1 : (w12.alloc (.cells #[.string K, .string V, .int .u32 fl, .int .u32 ex, .int .u64 cas] 36)).cell? ⟨yb, 1, none⟩ = some (.string V) := by rw [blk_cell YB13]; rfl
              have y2 : (w12.alloc (.cells #[.string K, .string V, .int .u32 fl, .int .u32 ex, .int .u64 cas] 36)).cell? ⟨yb, 2, none⟩ = some (.int .u32 fl) := by rw [blk_cell YB13]; rfl
              have y3 : (w12.alloc (.cells #[.string K, .string V, .int .u32 fl, .int .u32 ex, .int .u64 cas] 36)).cell? ⟨yb, 3, none⟩ = some (.int .u32 ex) := by rw [blk_cell YB13]; rfl
              have y4 : (w12.alloc (.cells #[.string K, .string V, .int .u32 fl, .int .u32 ex, .int .u64 cas] 36)).cell? ⟨yb, 4, none⟩ = some (.int .u64 cas) := by rw [blk_cell YB13]; rfl
              have z0 : (w12.alloc (.cells #[.string K, .string V, .int .u32 fl, .int .u32 ex, .int .u64 cas] 36)).cell? ⟨zb, 0, none⟩ = some (.string K) := by rw [blk_cell ZB13]; rfl
              have z1 : (w12.alloc (.cells #[.string K, .string V, .int .u32 fl, .int .u32 ex, .int .u64 cas] 36)).cell? ⟨zb, 1, none⟩ = some (.string V) := by rw [blk_cell ZB13]; rfl
              have z2 : (w12.alloc (.cells #[.string K, .string V, .int .u32 fl, .int .u32 ex, .int .u64 cas] 36)).cell? ⟨zb, 2, none⟩ = some (.int .u32 fl) := by rw [blk_cell ZB13]; rfl
              have z3 : (w12.alloc (.cells #[.string K, .string V, .int .u32 fl, .int .u32 ex, .int .u64 cas] 36)).cell? ⟨zb, 3, none⟩ = some (.int .u32 ex) := by rw [blk_cell ZB13]; rfl
              have z4 : (w12.alloc (.cells #[.string K, .string V, .int .u32 fl, .int .u32 ex, .int .u64 cas] 36)).cell? ⟨zb, 4, none⟩ = some (.int .u64 cas) := by rw [blk_cell ZB13]; rfl
              have F := Lib.hid ((LT.out _ _ H13.out).below (B := w.heap.size) (Nat.le_refl _) fun _ h => h)
              clear H13 ylt zw YB13 ZB13
              go_wp2_with fail
              go_ret
              exact ⟨rfl, F.out⟩
  · have F := Lib.hid (C1.out.below (B := w.heap.size) (Nat.le_refl _) fun _ h => h.elim)
    by_cases h1 : K.size < 1
    · have b1 : (K.size : Int) < 1 := by omega
      go_wp2_with fail
      go_ret
      exact ⟨rfl, F.out⟩
    · have b1 : ¬ (K.size : Int) < 1 := by omega
      by_cases h2 : 32 < K.size
      · have b2 : (32 : Int) < K.size := by omega
        go_wp2_with fail
        go_ret
        exact ⟨rfl, F.out⟩
      · have b2 : ¬ (32 : Int) < K.size := by omega
        have b3 : (900 : Int) < V.size := by omega
        go_wp2_with fail
        go_ret
        exact ⟨rfl, F.out⟩
end Go.Proofs.Ytolpjgpimholcaa.Item


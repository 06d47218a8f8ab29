/- The walks of the program's item.Places and item.Read at an item that lies in its chunks. -/
import Derived.Test.YtolpjgpimholcaaItemWrite
import Derived.Test.YtolpjgpimholcaaArenaHere
import Derived.Laws.ResultCell
import Derived.Laws.Rows
import Derived.Laws.Tables
namespace Go.Proofs.Ytolpjgpimholcaa.Item
open Go Go.RowKit Go.Proofs.Ytolpjgpimholcaa.Mem Go.Proofs.Ytolpjgpimholcaa.CodecPure Go.Proofs.Ytolpjgpimholcaa.ArenaPure Go.Proofs.Ytolpjgpimholcaa.Codec Go.Proofs.Ytolpjgpimholcaa.Arena Go.Proofs.Ytolpjgpimholcaa.NeedPure Go.Proofs.Ytolpjgpimholcaa.Need
set_option linter.unusedVariables false
set_option maxRecDepth 100000
variable {w w' : World} {a : Ar} {t : St} {tc : Int} {P key val : List Int} {ex fl cas : Int}
theorem _root_.Go.Proofs.Ytolpjgpimholcaa.ArenaPure.ItemAt.hdr (h : ItemAt t tc P key val ex fl cas) : within t (P.getD 0 0) 40 := by
  have hm : P.getD 0 0 ∈ P := by rw [List.getD_eq_getElem?_getD, List.getElem?_eq_getElem h.pos]; exact List.getElem_mem h.pos
  have := within_part (h.inn _ hm) 0 40 (by decide) (by decide) (by have := h.size; omega) (by decide)
  rwa [Int.add_zero] at this
theorem _root_.Go.Proofs.Ytolpjgpimholcaa.ArenaPure.ItemAt.p_in (h : ItemAt t tc P key val ex fl cas) {i : Nat} (hi : i < P.length) : within t (P.getD i 0) tc ∧ 0 ≤ P.getD i 0 ∧ P.getD i 0 ≤ 40000 := by
  have hm : P.getD i 0 ∈ P := by rw [List.getD_eq_getElem?_getD, List.getElem?_eq_getElem hi]; exact List.getElem_mem hi
  have hw := h.inn _ hm
  have := h.ok.high
  obtain ⟨_, h1, h2, _⟩ := hw
  exact ⟨h.inn _ hm, by omega, by omega⟩
/-- the places of an item: a row of the call's own -/
def PlEnd (w : World) (P : List Int) (e : Ending) (w' : World) : Prop :=
  ∃ A c, e = .returned (.tuple #[.slice A P.length c, .int .i64 0]) ∧ Mem.Own w' w.heap.size 3 .i64 (.slice A P.length c) P ∧ Chg (fun _ => False) w w'
set_option maxHeartbeats 1000000 in
theorem places_calls (hl : Lies w a t) (h : ItemAt t tc P key val ex fl cas) : Calls Try.prog 20 #[(.pointer (some ⟨a.g, 0, none⟩)), (.int .i64 (P.getD 0 0))] w (PlEnd w P) := by
  have hx := h.hdr
  obtain ⟨-, x0, x1⟩ := h.p_in h.pos
  have R := (read_calls hl (P.getD 0 0) 40 (by omega)).mono (R' := fun e w' => ∃ A n c, e = .returned (.tuple #[.slice A n c, .int .i64 0]) ∧ Chg (fun _ => False) w w') fun e w' ⟨A, c, e1, _, h2⟩ => ⟨A, _, c, by
    unfold readA at e1
    rw [if_pos hx] at e1
    exact e1, h2⟩
  have GM : itemGet t (P.getD 0 0) 3 = (nextP P 0, 0) := by
    have := h.chain 0 h.pos
    unfold itemGet
    rw [if_neg (by decide), if_neg (hdr_no hx), if_pos (by decide)]
    exact this
  have G := Lib.hid (fun (W : World) (hW : Lies W a t) => get_calls hW (P.getD 0 0) 3 (by omega))
  rw [GM] at G
  have NX : ∀ i, i < P.length → -1 ≤ nextP P i ∧ nextP P i ≤ 40000 ∧ (nextP P i ≠ -1 ↔ i + 1 < P.length) := fun i hi => by
    unfold nextP
    split
    · rename_i h1
      obtain ⟨-, a1, a2⟩ := h.p_in h1
      exact ⟨by omega, by omega, fun _ => h1, fun _ => by omega⟩
    · rename_i h1
      exact ⟨by omega, by omega, fun q => absurd rfl q, fun q => absurd q h1⟩
  have PL : Hid (∀ (W : World) (hW : Lies W a t) i, 0 < i → i < P.length → Calls Try.prog 69 #[(.pointer (some ⟨a.g, 0, none⟩)), (.int .i64 (P.getD i 0))] W fun e w' => e = .returned (.tuple #[(.int .i64 (nextP P i)), (.int .i64 0)]) ∧ W = w') := fun W hW i h0 hi => by
    have := place_calls hW (P.getD i 0) (by have := h.p_in hi; omega)
    have c := h.chain i hi
    unfold linkP at c
    rw [if_neg (by omega)] at c
    rw [c] at this
    exact this
  have hm := h.most
  have hp := h.pos
  obtain ⟨n, hn⟩ : ∃ n, P.length = n := ⟨_, rfl⟩
  rw [hn] at hm hp
  replace R := Lib.hid R
  replace NX := Lib.hid NX
  replace hn := Lib.hid hn
  replace hl := Lib.hid hl
  obtain ⟨x, hxx⟩ : ∃ x, P.getD 0 0 = x := ⟨_, rfl⟩
  rw [hxx] at x0 x1 R G ⊢
  replace hxx := Lib.hid hxx
  clear hx GM h
  go_enter Try.func20, Try.ntmps20
  go_wp2_with fail
  refine R.out.mono ?_
  rintro e w1 ⟨A1, n1, c1, rfl, hc1⟩
  have L1 := Lib.hid (hl.out.chg hc1 id id fun _ _ => id)
  have C1 := Lib.hid hc1
  clear hc1 R
  go_wp2_with fail
  refine (G.out _ (L1.out.chg (Chg.alloc (fun _ => False) w1 _) id id fun _ _ => id)).mono ?_
  rintro e w2 ⟨rfl, hc2⟩
  have O1 : Mem.Own (w1.alloc (.cells #[.int .i64 x] 3)) w1.heap.size 3 .i64 (.slice (some ⟨w1.heap.size, 0, none⟩) 1 1) [x] := Mem.Own.lit w1 3 .i64 [x] (show 1 ≤ maxLen by decide)
  have tk : ∀ k, k < n → P.take (k + 1) = P.take k ++ [P.getD k 0] := fun k hk => by
    rw [List.getD_eq_getElem?_getD, List.getElem?_eq_getElem (by rw [hn.out]; exact hk)]
    exact List.take_succ_eq_append_getElem _
  have T1 : P.take 1 = [x] := by rw [tk 0 hp, hxx.out]; rfl
  have C2 : Hid (Chg (fun _ => False) w w2) := (C1.out.trans (Chg.alloc _ _ _)).trans hc2
  have O2 : Hid (Mem.Own w2 w.heap.size 3 .i64 (.slice (some ⟨w1.heap.size, 0, none⟩) 1 1) (P.take 1)) := by rw [T1]; exact (O1.chg hc2 fun _ _ => id).mono C1.out.size
  replace tk := Lib.hid tk
  clear O1 T1 hc2 G L1 C1
  go_wp2_with fail
  go_loopg [8, 9, 10] n (fun g l next e wr => ∃ (k : Nat) (A : Option Addr) (c : Nat), l = .slice A k c ∧ next = (.int .i64 (nextP P (k - 1))) ∧ e = (.int .i64 0) ∧ g = n + 1 - k ∧ 1 ≤ k ∧ k ≤ n ∧ Hid (Mem.Own wr w.heap.size 3 .i64 (.slice A k c) (P.take k)) ∧ Hid (Chg (fun _ => False) w wr))
  case atStart => exact ⟨1, _, _, rfl, rfl, rfl, by omega, Nat.le_refl _, hp, O2.out, C2.out⟩
  case round =>
    clear O2 C2
    obtain ⟨k, A, c, rfl, rfl, rfl, hg, hk1, hk, OK, CK⟩ := hrel
    obtain ⟨wo, rfl⟩ : ∃ wo : World, wo = wr := ⟨_, rfl⟩
    replace hg := Lib.hid hg
    have LK := Lib.hid (hl.out.chg CK.out id id fun _ _ => id)
    obtain ⟨nx1, nx2, nx3⟩ := NX.out (k - 1) (by rw [hn.out]; omega)
    rw [hn.out, show k - 1 + 1 = k from by omega] at nx3
    by_cases h1 : k < n
    · have ne : nextP P (k - 1) ≠ -1 := nx3.2 h1
      have ev : nextP P (k - 1) = P.getD k 0 := by
        unfold nextP
        rw [show k - 1 + 1 = k from by omega, if_pos (by rw [hn.out]; exact h1)]
      rw [ev] at ne nx1 nx2 ⊢
      have t1 : (P.getD k 0 == -1) = false := by rw [beq_eq_false_iff_ne]; exact ne
      have t2 : (P.getD k 0 != -1) = true := by rw [bne_iff_ne]; exact ne
      have t3 : ((k : Int) == 16) = false := by rw [beq_eq_false_iff_ne]; omega
      have PC := Lib.hid (fun (W : World) (hW : Lies W a t) => PL.out W hW k (by omega) (by rw [hn.out]; exact h1))
      have TK : Hid (P.take (k + 1) = P.take k ++ [P.getD k 0]) := tk.out k h1
      have lk : Hid ((P.take k).length = k) := by show _ = _; rw [List.length_take, hn.out]; omega
      clear nx3 ev ne
      generalize P.getD k 0 = y at nx1 nx2 t1 t2 PC TK ⊢
      go_wp2_with (at_builtin; refine wpList_app rfl _ _ 27 rfl w.heap.size 3 .i64 8 Try.underlying27 infoInt _ (P.take k) rfl (OK.out.chg (Chg.alloc (fun _ => False) wo (.cells #[.int .i64 y] 3)) (fun _ _ => id)) (some ⟨wo.heap.size, 0, none⟩) 1 1 [y] rfl rfl (sl_lit wo .i64 [y] 3 (0, 0)) (fun e => by cases e) (by rw [lk.out]; unfold maxLen; omega) (by rw [lk.out]; omega) (by have := CK.out.size; simp; omega) ?_; intro A' c' n' w6 hn' hown hchg; obtain rfl : n' = k + 1 := (by rw [hn', lk.out]); have O6 : Hid (Mem.Own w6 w.heap.size 3 .i64 (.slice A' (k + 1) c') (P.take (k + 1))) := (by rw [TK.out]; exact hown); have C6 : Hid (Chg (fun _ => False) w w6) := ((((CK.out.trans (Chg.alloc _ wo _)).mono (fun _ _ h => h.elim)).trans hchg).mono (fun b hb h => absurd hb (Nat.not_lt.2 h))); clear hn' hown hchg)
      refine (PC.out w6 (hl.out.chg C6.out id id fun _ _ => id)).mono ?_
      rintro e w7 ⟨rfl, rfl⟩
      go_wp2_with fail
      go_roundg (n + 1 - (k + 1))
      case measure => have := hg.out; omega
      case rel => exact ⟨k + 1, A', c', rfl, by rw [Nat.add_sub_cancel], rfl, rfl, by omega, by omega, O6.out, C6.out⟩
    · have ek : k = n := by omega
      have ev : nextP P (k - 1) = -1 := by
        rcases Classical.em (nextP P (k - 1) = -1) with h | h
        · exact h
        · exact absurd (nx3.1 h) h1
      rw [ev]
      have F : Hid (PlEnd w P (.returned (.tuple #[.slice A k c, .int .i64 0])) wo) := ⟨A, c, by rw [hn.out, ek], by
        have := OK.out
        rw [List.take_of_length_le (by rw [hn.out, ek]; exact Nat.le_refl _)] at this
        rw [hn.out, ← ek]
        exact this, CK.out⟩
      clear nx1 nx2 nx3 ev ek h1 OK
      go_wp2_with fail
      go_ret2
      exact F.out
theorem results_row_tmp {P : Program} {fn : Func} {p u : Tmp} {ty : TypeId} (h : fn.results = #[.cell p ty, .tmp u]) (tmps : Array Value) (w : World) (g : Nat) (t : TypeId) (cs : Array Value) (fr : Nat × Nat) (d : TypeDesc)
    (hp : tmps.getD p undef = .pointer (some ⟨g, 0, none⟩)) (hg : w.heap[g]? = some (.cells cs t fr))
    (hu : P.underlying ty = some d) (hd : (match d with | .struct _ | .array _ _ => true | _ => false) = true) (hi : (P.info? ty).map (·.size) = some cs.size) :
    (results fn tmps).run P w = .ok (.tuple #[.agg cs, tmps.getD u undef]) w := by
  rw [results_cell_tmp h, hp]
  simp [asAddr, run_loadVar_row w g t ty cs fr d hg hu hd hi, Result.andThen]
theorem u32_wrap (n : Int) : IntKind.u32.wrap n = n % 4294967296 := by simp [IntKind.wrap, IntKind.bits, IntKind.signed]
/-- what an item reads as -/
def rdV (key val : List Int) (fl ex cas : Int) : Value := .agg #[.string (strOfNums key), .string (strOfNums val), .int .u32 fl, .int .u32 ex, .int .u64 cas]
set_option maxHeartbeats 2000000 in
theorem read_ok (hl : Lies w a t) (h : ItemAt t tc P key val ex fl cas) (T : List Int) (AT : Option Addr) (cT : Nat) (hT : Sl w .i64 AT T) (hTm : T.length ≤ 1000) (hTw : ∀ x ∈ T, -9223372036854775808 ≤ x ∧ x ≤ 9223372036854775807)
    (c more : Nat) (hn : needC T key.length val.length = ((c : Int), (more : Int), 0)) (hc : c < T.length) (htc : T.getD c 0 = tc) (ht : tc ≤ 1024) (hlen : P.length = 1 + more) :
    Calls Try.prog 19 #[(.pointer (some ⟨a.g, 0, none⟩)), .slice AT T.length cT, (.int .i64 (P.getD 0 0))] w fun e w' => e = .returned (.tuple #[rdV key val fl ex cas, .int .i64 0]) ∧ Chg (fun _ => False) w w' := by
  have hx := h.hdr
  obtain ⟨-, x0, x1⟩ := h.p_in h.pos
  have R := Lib.hid (fun (W : World) (hW : Lies W a t) => (read_calls hW (P.getD 0 0) 40 (by omega)).mono (R' := fun e w' => ∃ A n c, e = .returned (.tuple #[.slice A n c, .int .i64 0]) ∧ Chg (fun _ => False) W w') fun e w' ⟨A, c, e1, _, h2⟩ => ⟨A, _, c, by
    unfold readA at e1
    rw [if_pos hx] at e1
    exact e1, h2⟩)
  have G := fun f (W : World) (hW : Lies W a t) => get_calls hW (P.getD 0 0) f (by omega)
  have G8 := Lib.hid (G 8)
  rw [h.fkl] at G8
  have G7 := Lib.hid (G 7)
  rw [h.fvl] at G7
  have G5 := Lib.hid (G 5)
  rw [h.fex] at G5
  have G6 := Lib.hid (G 6)
  rw [h.ffl] at G6
  have NC := Lib.hid (fun (W : World) (hW : Lies W a t) => number_calls hW (P.getD 0 0 + 16) 8 (by omega))
  rw [h.fcas] at NC
  have ND := Lib.hid (fun (W : World) (hW : Sl W .i64 AT T) => need_calls AT cT T key.length val.length W hW (by omega) hTw)
  rw [hn] at ND
  have PLC := Lib.hid (fun (W : World) (hW : Lies W a t) => places_calls hW h)
  have f5 : 0 ≤ ex ∧ ex < 4294967296 := (got_of_itemGet h.ok hx (by decide) (by decide) (by decide) h.fex).2
  have f6 : 0 ≤ fl ∧ fl < 4294967296 := (got_of_itemGet h.ok hx (by decide) (by decide) (by decide) h.ffl).2
  have ls := h.lens
  have wk : within t (P.getD 0 0 + 40) key.length := within_part (h.p_in h.pos).1 40 key.length (by decide) (by omega) h.size.1 (by omega)
  have RK := Lib.hid (fun (W : World) (hW : Lies W a t) => (read_calls hW (P.getD 0 0 + 40) key.length (by omega)).mono (R' := fun e w' => ∃ A c, e = .returned (.tuple #[.slice A key.length c, .int .i64 0]) ∧ Sl w' .u8 A key ∧ Chg (fun _ => False) W w') fun e w' ⟨A, c, e1, h1, h2⟩ => ⟨A, c, by
    unfold readA at e1 h1
    rw [if_pos wk] at e1 h1
    rw [h.k] at e1 h1
    exact ⟨e1, h1.sl, h2⟩⟩)
  have PA := Lib.hid (fun (W : World) (hW : Sl W .i64 AT T) (v : Value) (hv : SlV W .i64 v P) => parts_calls T AT cT hW hTm P v hv h.pos (by have := h.most; omega) c hc tc htc key.length val.length ls.2.1 ls.2.2 ⟨h.size.1, h.size.2, ht⟩ (fun p hp => by
    have := h.ok.high
    obtain ⟨_, h1, h2, _⟩ := h.inn p hp
    omega))
  have hall := Lib.hid h.all
  have RP := Lib.hid (fun (W : World) (hW : Lies W a t) (i : Nat) (hi : i < P.length) (m : Nat) (hm : offV tc key.length val.length (i + 1) - offV tc key.length val.length i = m) (m0 : 0 < m) => (read_calls hW (partP P key.length i) m (by
      obtain ⟨o, a1, a2, a3, a4⟩ := h.part_in hi
      have := h.p_in hi
      omega)).mono (R' := fun e w' => ∃ A c, e = .returned (.tuple #[.slice A m c, .int .i64 0]) ∧ Mem.Own w' W.heap.size 5 .u8 (.slice A m c) ((val.drop (offV tc key.length val.length i).toNat).take m) ∧ Chg (fun _ => False) W w') fun e w' ⟨A, c, e1, h1, h2⟩ => ⟨A, c, by
    obtain ⟨o, a1, a2, a3, a4⟩ := h.part_in hi
    have hp := h.p_in hi
    have hv := h.v i hi
    rw [hm] at hv a3 a4
    have wi : within t (partP P key.length i) m := by rw [a2]; exact within_part hp.1 o m (by omega) (by omega) (by omega) (by omega)
    have lm : (got t (partP P key.length i) m).length = m := by rw [got_length h.ok wi]; omega
    unfold readA at e1 h1
    rw [if_pos wi] at e1 h1
    simp only [lm] at e1 h1
    rw [hv] at h1
    have em : ((m : Int)).toNat = m := by omega
    rw [em] at h1
    exact ⟨e1, h1, h2⟩⟩)
  have OM := Lib.hid (fun k => offV_mono (tc := tc) (kl := key.length) (vl := val.length) h.size.1 h.size.2 (by omega) k)
  have np16 := h.most
  obtain ⟨np, hnp⟩ : ∃ np, P.length = np := ⟨_, rfl⟩
  obtain ⟨kl, hkl⟩ : ∃ kl, key.length = kl := ⟨_, rfl⟩
  obtain ⟨vl, hvl⟩ : ∃ vl, val.length = vl := ⟨_, rfl⟩
  have vb := Lib.hid h.bytes
  obtain ⟨x, hxx⟩ : ∃ x, P.getD 0 0 = x := ⟨_, rfl⟩
  rw [hnp] at hlen np16
  rw [hkl, hvl] at ls
  have hne : ((np : Int) != 1 + (more : Int)) = false := by rw [bne_eq_false_iff_eq]; omega
  have hmo : more ≤ 16 := by omega
  simp only [hkl, hvl, hxx, hnp] at R G8 G7 G5 G6 NC ND PLC RK PA RP OM hall ⊢
  rw [hxx] at x0 x1
  obtain ⟨f51, f52⟩ := f5
  obtain ⟨f61, f62⟩ := f6
  obtain ⟨l1, l2, l3⟩ := ls
  have np0 : 0 < np := by omega
  replace hnp := Lib.hid hnp
  replace hkl := Lib.hid hkl
  replace hvl := Lib.hid hvl
  replace hxx := Lib.hid hxx
  replace hlen := Lib.hid hlen
  replace hT := Lib.hid hT
  replace hl := Lib.hid hl
  clear h hx G hn htc hTw wk
  go_enter Try.func19, Try.ntmps19
  go_wp2_with fail
  have XB := heap_alloc_at w (.cells #[.string ⟨#[]⟩, .string ⟨#[]⟩, .int .u32 0, .int .u32 0, .int .u64 0] 36)
  have C0 : Hid (Chg (fun _ => False) w (w.alloc (.cells #[.string ⟨#[]⟩, .string ⟨#[]⟩, .int .u32 0, .int .u32 0, .int .u64 0] 36))) := Chg.alloc _ _ _
  replace XB := Lib.hid XB
  generalize w.alloc (.cells #[.string ⟨#[]⟩, .string ⟨#[]⟩, .int .u32 0, .int .u32 0, .int .u64 0] 36) = w0 at XB C0 ⊢
  refine (R.out w0 (hl.out.chg C0.out id id fun _ _ => id)).mono ?_
  rintro e w1 ⟨A1, n1, c1, rfl, hc1⟩
  have C1 := Lib.hid hc1
  clear hc1 R
  replace hl : Hid (Lies w0 a t) := hl.out.chg C0.out id id fun _ _ => id
  replace hT : Hid (Sl w0 .i64 AT T) := hT.out.chg C0.out fun _ _ => id
  go_wp2_with fail
  refine (G8.out w1 (hl.out.chg C1.out id id fun _ _ => id)).mono ?_
  rintro e w2 ⟨rfl, hc⟩
  have C2 := Lib.hid (C1.out.trans hc)
  clear hc G8 C1
  go_wp2_with fail
  refine (G7.out w2 (hl.out.chg C2.out id id fun _ _ => id)).mono ?_
  rintro e w3 ⟨rfl, hc⟩
  have C3 := Lib.hid (C2.out.trans hc)
  clear hc G7 C2
  go_wp2_with fail
  refine (ND.out w3 (hT.out.chg C3.out fun _ _ => id)).mono ?_
  rintro e w4 ⟨rfl, hd⟩
  have C4 := Lib.hid (C3.out.trans (hd.chg _))
  clear hd ND C3
  go_wp2_with fail
  refine (PLC.out w4 (hl.out.chg C4.out id id fun _ _ => id)).mono ?_
  rintro e w5 ⟨A5, c5, rfl, O5, hc⟩
  have C5 := Lib.hid (C4.out.trans hc)
  rw [hnp.out] at O5 ⊢
  have S5 := Lib.hid O5.slv
  clear hc O5 PLC C4
  go_wp2_with fail
  refine (RK.out w5 (hl.out.chg C5.out id id fun _ _ => id)).mono ?_
  rintro e w6 ⟨A6, c6, rfl, SK, hc⟩
  have C6 := Lib.hid (C5.out.trans hc)
  have S6 := Lib.hid (S5.out.chg hc)
  replace SK := Lib.hid SK
  clear hc RK C5 S5
  go_wp2_with fail
  refine (PA.out w6 (hT.out.chg C6.out fun _ _ => id) _ S6.out).mono ?_
  rintro e w7 ⟨A7, c7, rfl, P7, hc⟩
  rw [hnp.out] at P7 ⊢
  have C7 := Lib.hid (C6.out.trans hc)
  replace SK := Lib.hid (SK.out.chg hc fun _ _ => id)
  replace P7 := Lib.hid P7
  have B67 : Hid (w6.heap.size ≤ w7.heap.size) := hc.size
  clear hc PA C6 S6
  go_wp2_with fail
  obtain ⟨g7, eg, hg7, -, -⟩ := P7.out.cells np0
  subst eg
  obtain ⟨ap, hap⟩ : ∃ ap : Addr, ap = ⟨g7, 0, none⟩ := ⟨_, rfl⟩
  rw [← hap] at P7 ⊢
  have PCS : Hid (∀ W (k : Nat), Chg (fun _ => False) w7 W → k < np → W.cell? (ap.add (k * 2)) = some (.int .i64 (partP P kl k)) ∧ W.cell? ⟨(ap.add (k * 2)).block, (ap.add (k * 2)).off + 1, none⟩ = some (.int .i64 (offV tc kl vl (k + 1) - offV tc kl vl k))) := fun W k hW hk => by
    have P := P7.out
    rw [hap] at P
    obtain ⟨g, e, -, h1, h2⟩ := P.cells hk
    injection e with e
    injection e with e
    subst e
    rw [hap, add_plain, Nat.zero_add]
    exact ⟨hW.cell h1 id, hW.cell h2 id⟩
  have BW : Hid (w0.heap.size ≤ w7.heap.size) := C7.out.size
  replace hap := Lib.hid hap
  clear hg7 P7
  go_wp2_with fail
  go_loopg [19, 101] np (fun g value i wr => ∃ (k o : Nat) (R : Option Addr) (d : Nat), value = .slice R o d ∧ i = .int .i64 k ∧ g = np - k ∧ k ≤ np ∧ o ≤ vl ∧ Hid (offV tc kl vl k = o) ∧ Hid (Mem.Own wr w7.heap.size 5 .u8 (.slice R o d) (val.take o)) ∧ Hid (Chg (fun _ => False) w7 wr))
  case atStart => exact ⟨0, 0, none, 0, rfl, rfl, rfl, Nat.zero_le _, Nat.zero_le _, rfl, Mem.Own.nil _ _ _ _, Chg.refl _ _⟩
  case round =>
    obtain ⟨k, o, R, d, rfl, rfl, hg, hk, hov, ho, OK, CK⟩ := hrel
    obtain ⟨wo, rfl⟩ : ∃ wo : World, wo = wr := ⟨_, rfl⟩
    replace hg := Lib.hid hg
    by_cases h1 : k < np
    · have h1' : (k : Int) < np := by omega
      obtain ⟨p1, p2⟩ := PCS.out wo k CK.out h1
      have o1 := (OM.out k).2.2.1
      have o2 := (OM.out (k + 1)).2.1
      obtain ⟨nk, hnk⟩ : ∃ nk : Nat, offV tc kl vl (k + 1) - offV tc kl vl k = nk := ⟨(offV tc kl vl (k + 1) - offV tc kl vl k).toNat, by omega⟩
      have ho2 : Hid (offV tc kl vl (k + 1) = ((o + nk : Nat) : Int)) := by have := ho.out; show _ = _; omega
      have hov2 : o + nk ≤ vl := by have := ho2.out; omega
      have RD := fun (W : World) (hW : Lies W a t) => RP.out W hW k h1 nk hnk
      have eo : (offV tc kl vl k).toNat = o := by rw [ho.out]; omega
      rw [eo] at RD
      replace RD := Lib.hid RD
      rw [hnk] at p2
      generalize partP P kl k = pk at p1 RD
      have WA : Hid (Chg (fun _ => False) w7 (wo.alloc (.cells #[.int .i64 pk, .int .i64 nk] 112))) := CK.out.trans (Chg.alloc _ _ _)
      have XP := heap_alloc_at wo (.cells #[.int .i64 pk, .int .i64 nk] 112)
      have q0 : (wo.alloc (.cells #[.int .i64 pk, .int .i64 nk] 112)).cell? ⟨wo.heap.size, 0, none⟩ = some (.int .i64 pk) := by rw [blk_cell XP]; rfl
      have q1 : (wo.alloc (.cells #[.int .i64 pk, .int .i64 nk] 112)).cell? ⟨wo.heap.size, 1, none⟩ = some (.int .i64 nk) := by rw [blk_cell XP]; rfl
      have OA : Hid (Mem.Own (wo.alloc (.cells #[.int .i64 pk, .int .i64 nk] 112)) w7.heap.size 5 .u8 (.slice R o d) (val.take o)) := OK.out.chg (Chg.alloc (fun _ => False) wo _) fun _ _ => id
      clear hnk eo o1 o2 OK
      by_cases z : nk = 0
      · have z' : ((nk : Int) == 0) = true := by rw [z]; rfl
        have e0 : o + nk = o := by omega
        rw [e0] at ho2
        clear z e0 RD
        go_wp2_with fail
        go_roundg (np - (k + 1))
        case measure => have := hg.out; omega
        case rel => exact ⟨k + 1, o, R, d, rfl, rfl, rfl, by omega, hov, ho2.out, OA.out, WA.out⟩
      · have z' : ((nk : Int) == 0) = false := by rw [beq_eq_false_iff_ne]; omega
        have zp : 0 < nk := by omega
        replace RD := Lib.hid (fun W hW => RD.out W hW zp)
        clear z zp
        have lt : Hid ((val.take o).length = o) := by show _ = _; rw [List.length_take, hvl.out]; omega
        have lp : Hid (((val.drop o).take nk).length = nk) := by show _ = _; rw [List.length_take, List.length_drop, hvl.out]; omega
        have tt : Hid (val.take (o + nk) = val.take o ++ (val.drop o).take nk) := by show _ = _; rw [List.take_add]
        go_wp2_with fail
        refine (RD.out _ (hl.out.chg (C7.out.trans WA.out) id id fun _ _ => id)).mono ?_
        rintro e w8 ⟨A8, c8, rfl, O8, hc8⟩
        have C8 := Lib.hid (WA.out.trans hc8)
        replace OA := Lib.hid (OA.out.chg hc8 fun _ _ => id)
        replace O8 := Lib.hid O8
        clear hc8 RD q0 q1 XP
        go_wp2_with (at_builtin; refine wpList_app rfl _ _ 52 rfl w7.heap.size 5 .u8 1 Try.underlying52 infoByte _ (val.take o) rfl OA.out A8 _ c8 ((val.drop o).take nk) rfl lp.out O8.out.sl O8.out.nilc (by rw [lt.out]; unfold maxLen; omega) (by rw [lt.out]; omega) (by have := C8.out.size; omega) ?_; intro A' c' n' w9 hn' hown hchg; obtain rfl : n' = o + nk := (by rw [hn', lt.out]); have O9 : Hid (Mem.Own w9 w7.heap.size 5 .u8 (.slice A' (o + nk) c') (val.take (o + nk))) := (by rw [tt.out]; exact hown); have C9 : Hid (Chg (fun _ => False) w7 w9) := ((((C8.out.mono fun _ _ h => h.elim).trans hchg)).mono (fun b hb h => absurd hb (Nat.not_lt.2 h))); clear hn' hown hchg)
        go_roundg (np - (k + 1))
        case measure => have := hg.out; omega
        case rel => exact ⟨k + 1, o + nk, A', c', rfl, rfl, rfl, by omega, hov2, ho2.out, O9.out, C9.out⟩
    · have ek : k = np := by omega
      have eo : o = vl := by
        have := ho.out
        rw [ek, hall.out] at this
        omega
      have OV : Hid (Mem.Own wo w7.heap.size 5 .u8 (.slice R o d) val) := by
        have := OK.out
        rw [List.take_of_length_le (by rw [hvl.out, eo]; exact Nat.le_refl _)] at this
        exact this
      have h1' : ¬ (k : Int) < np := by omega
      clear ek hg
      have C10 := Lib.hid (C7.out.trans CK.out)
      have SK2 := Lib.hid (SK.out.chg CK.out fun _ _ => id)
      clear CK C7 SK PCS RP OM hall h1 hk ho
      replace OV := Lib.hid (OV.out.sl)
      go_wp2_with fail
      refine (G5.out wo (hl.out.chg C10.out id id fun _ _ => id)).mono ?_
      rintro e w11 ⟨rfl, hc⟩
      have C11 := Lib.hid (C10.out.trans hc)
      replace SK2 := Lib.hid (SK2.out.chg hc fun _ _ => id)
      replace OV := Lib.hid (OV.out.chg hc fun _ _ => id)
      clear hc G5 C10
      go_wp2_with fail
      refine (G6.out w11 (hl.out.chg C11.out id id fun _ _ => id)).mono ?_
      rintro e w12 ⟨rfl, hc⟩
      have C12 := Lib.hid (C11.out.trans hc)
      replace SK2 := Lib.hid (SK2.out.chg hc fun _ _ => id)
      replace OV := Lib.hid (OV.out.chg hc fun _ _ => id)
      clear hc G6 C11
      obtain ⟨sp, SPC, IX4, IX3⟩ := spots_fact
      replace SPC := Lib.hid SPC
      have FD0 := field_spot0 16 8
      have FD1 := field_spot1 16 8
      go_wp2_with fail
      refine (SPC.out w12).mono ?_
      rintro e w13 ⟨rfl, hc⟩
      have C13 := Lib.hid (C12.out.trans hc)
      replace SK2 := Lib.hid (SK2.out.chg hc fun _ _ => id)
      replace OV := Lib.hid (OV.out.chg hc fun _ _ => id)
      clear hc C12
      go_wp2_with fail
      refine (SPC.out w13).mono ?_
      rintro e w14 ⟨rfl, hc⟩
      have C14 := Lib.hid (C13.out.trans hc)
      replace SK2 := Lib.hid (SK2.out.chg hc fun _ _ => id)
      replace OV := Lib.hid (OV.out.chg hc fun _ _ => id)
      clear hc C13
      go_wp2_with fail
      refine (NC.out w14 (hl.out.chg C14.out id id fun _ _ => id)).mono ?_
      rintro e w15 ⟨rfl, rfl⟩
      have hb := C14.out.keep XB.out id
      have kc1 : (Go.convert 52 9 (.slice A6 kl c6)).run Try.prog w14 = .ok (.string (strOfNums key)) w14 := by
        have := conv_sl (c := c6) Try.underlying52 Try.underlying5 Try.underlying9 SK2.out
        rw [hkl.out] at this
        exact this
      have kc2 : (Go.convert 52 9 (.slice R vl d)).run Try.prog w14 = .ok (.string (strOfNums val)) w14 := by
        have := conv_sl (c := d) Try.underlying52 Try.underlying5 Try.underlying9 OV.out
        rw [hvl.out] at this
        exact this
      have wf : IntKind.u32.wrap fl = fl := by rw [u32_wrap]; omega
      have we : IntKind.u32.wrap ex = ex := by rw [u32_wrap]; omega
      have hr := setRow_heap w14 w.heap.size _ #[.string (strOfNums key), .string (strOfNums val), .int .u32 fl, .int .u32 ex, .int .u64 cas] _ (0, 0) hb
      have FC : Hid (Chg (fun _ => False) w (w14.setRow w.heap.size #[.string (strOfNums key), .string (strOfNums val), .int .u32 fl, .int .u32 ex, .int .u64 cas])) :=
        (((C0.out.trans C14.out).mono (fun _ _ h => h.elim)).trans (Chg.setRow (S := fun b => b = w.heap.size) _ _ _ rfl)).mono fun i h1 h2 => by omega
      replace hr := Lib.hid hr
      clear SPC IX3 IX4 NC
      go_wp2_with (refine wpList_store_row rfl 36 (.tmp 6) (.tmp 159) rfl w.heap.size #[.string (strOfNums key), .string (strOfNums val), .int .u32 fl, .int .u32 ex, .int .u64 cas] rfl rfl 36 _ hb (by kernel_rfl) rfl (by kernel_rfl) ?_)
      show bodyPost Try.prog Try.f19 _ Exit.ret _ _
      refine bodyPost_ret (v := .tuple #[rdV key val fl ex cas, .int .i64 0]) ?hres rfl ⟨rfl, FC.out⟩
      case hres => exact results_row_tmp (p := 6) (u := 7) rfl _ _ w.heap.size 36 #[.string (strOfNums key), .string (strOfNums val), .int .u32 fl, .int .u32 ex, .int .u64 cas] (0, 0) _ rfl hr.out Try.underlying36 rfl (by kernel_rfl)
end Go.Proofs.Ytolpjgpimholcaa.Item

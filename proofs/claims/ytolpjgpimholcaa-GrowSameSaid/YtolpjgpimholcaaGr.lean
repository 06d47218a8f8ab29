import Derived.Test.YtolpjgpimholcaaGk
import Derived.Test.YtolpjgpimholcaaGq
/- A key set again in a map. No program in sight. -/
namespace Go.Proofs.Ytolpjgpimholcaa.Mem
open Go Go.RowKit Go.MapKept
set_option linter.unusedVariables false
set_option maxRecDepth 100000
variable {f g : Nat → Value} {P : Program} {w w' : World} {b : Nat} {L M : List Nat} {t kt et : TypeId} {d : TypeDesc}
theorem modify_same {α β : Type} (F : α → β) (h : α → α) : ∀ (l : List α) (j : Nat) (e : α), l[j]? = some e → F (h e) = F e → (l.modify j h).map F = l.map F
  | [], _, _, q, _ => by simp at q
  | x :: l, 0, e, q, k => by
    injection q with q
    subst q
    show F (h x) :: _ = _
    rw [k]; rfl
  | x :: l, j + 1, e, q, k => by
    show F x :: (l.modify j h).map F = _
    rw [modify_same F h l j e q k]; rfl
theorem KMap.again (h : KMap f g w b L) (F : Keyed d f) (ht : P.underlying t = some (.map kt et)) (hkt : P.underlying kt = some d) {n : Nat} (hn : n ∈ L) (hn30 : n < 30) :
    ∃ w', (Instr.mapUpdate t (.map (some b)) (f n) (g n)).run P w = .ok () w' ∧ KMap f g w' b L ∧ Chg (fun x => x = b) w w' := by
  obtain ⟨es, clock, ks, hb, h1, h2, h3, h4⟩ := h
  rcases entries_findK F h1 (fun x hx => h4 x (h2.mem_iff.1 hx)) hn30 with ⟨hn', hf⟩ | ⟨j, hj, hf⟩
  · exact absurd (h2.mem_iff.2 hn) hn'
  · have hl : es.size = ks.length := by have := congrArg List.length h1; simpa using this
    have hjl : j < ks.length := by
      rcases Nat.lt_or_ge j ks.length with h | h
      · exact h
      · rw [List.getElem?_eq_none h] at hj; cases hj
    obtain ⟨e, he⟩ : ∃ e, es[j]? = some e := ⟨es[j]'(by omega), Array.getElem?_eq_getElem (by omega)⟩
    have hke : e.key = f n ∧ e.val = g n := by
      have q := congrArg (fun l => l[j]?) h1
      simp only [List.getElem?_map, Array.getElem?_toList, he, hj, Option.map_some] at q
      injection q with q
      injection q with q1 q2
      exact ⟨q1, q2⟩
    have hk2 : (es[j]?.map fun x => x.key).getD (f n) = f n := by rw [he]; exact hke.1
    refine ⟨_, by simp only [Instr.mapUpdate, Sem.run_bind, run_underlying ht, MapKept.run_getObj_map hb, MapKept.run_checkKey hkt (F.key n), MapKept.run_findKey hkt hf, hk2, run_keyThatStays (F.key n), MapKept.run_setObj_map _ hb, Result.andThen], ⟨es.modify j fun e => { e with key := f n, val := g n }, clock, ks, (heap_set hb).1, ?_, h2, h3, h4⟩, chg_map w b _⟩
    rw [Array.toList_modify, modify_same _ _ _ _ e (by rw [Array.getElem?_toList]; exact he) (by rw [hke.1, hke.2])]
    exact h1
end Go.Proofs.Ytolpjgpimholcaa.Mem

/- The walk of chapter 11's GrowSame. -/
namespace Go.Proofs.Ytolpjgpimholcaa.Grow
open Go Go.RowKit Go.Proofs.Ytolpjgpimholcaa.Mem Go.Proofs.Ytolpjgpimholcaa.CodecPure Go.Proofs.Ytolpjgpimholcaa.ArenaPure Go.Proofs.Ytolpjgpimholcaa.Codec Go.Proofs.Ytolpjgpimholcaa.Arena Go.Proofs.Ytolpjgpimholcaa.Item Go.Proofs.Ytolpjgpimholcaa.Fnv Go.Proofs.Ytolpjgpimholcaa.Assoc
set_option linter.unusedVariables false
set_option maxRecDepth 100000
variable {w w' : World} {m : Nat} {L : List Nat} {x : Nat}
theorem inb_yes (h : KMap kf kt w m L) (hx : x < 30) (hm : x ∈ L) : (Instr.lookup 90 (.map (some m)) (.string (keyS x)) false).run Try.prog w = .ok (.bool true) w := by
  have := h.lookup1 kf_keyed Try.underlying90 Try.underlying9 (zeroB w) hx
  rw [if_pos hm] at this
  exact this
theorem inb_no (h : KMap kf kt w m L) (hx : x < 30) (hm : x ∉ L) : (Instr.lookup 90 (.map (some m)) (.string (keyS x)) false).run Try.prog w = .ok (.bool false) w := by
  have := h.lookup1 kf_keyed Try.underlying90 Try.underlying9 (zeroB w) hx
  rw [if_neg hm] at this
  exact this
theorem inb_put (h : KMap kf kt w m L) (hx : x < 30) (hm : x ∉ L) : ∃ w', (Instr.mapUpdate 90 (.map (some m)) (.string (keyS x)) (.bool true)).run Try.prog w = .ok () w' ∧ KMap kf kt w' m (x :: L) ∧ Chg (fun y => y = m) w w' :=
  h.update kf_keyed Try.underlying90 Try.underlying9 hm hx
theorem inb_again (h : KMap kf kt w m L) (hx : x < 30) (hm : x ∈ L) : ∃ w', (Instr.mapUpdate 90 (.map (some m)) (.string (keyS x)) (.bool true)).run Try.prog w = .ok () w' ∧ KMap kf kt w' m L ∧ Chg (fun y => y = m) w w' :=
  h.again kf_keyed Try.underlying90 Try.underlying9 hm hx
theorem inb_del (h : KMap kf kt w m L) (hx : x < 30) : ∃ w', (Builtin.delete_ #[90, 9] 0 #[.map (some m), .string (keyS x)]).run Try.prog w = .ok (.tuple #[]) w' ∧ KMap kf kt w' m (L.erase x) ∧ Chg (fun y => y = m) w w' :=
  h.delete kf_keyed Try.underlying90 Try.underlying9 hx _ _
theorem inb_len (h : KMap kf kt w m L) : (Builtin.len_ #[90] 3 #[.map (some m)]).run Try.prog w = .ok (.int .i64 L.length) w := h.len Try.underlying90 _
theorem fin_yes {K : List Nat} {x : Nat} (h : x ∈ K) : finK K x = .tuple #[.int .i64 (64 * (x : Int)), .bool true] := if_pos h
theorem fin_no {K : List Nat} {x : Nat} (h : x ∉ K) : finK K x = .tuple #[.int .i64 0, .bool false] := if_neg h
theorem _root_.Go.Proofs.Ytolpjgpimholcaa.Grow.GE.less {B : Nat} {w0 w : World} {a : Ar} {g n m : Nat} {on : Bool} {K : List Nat} {X Y : Nat → Prop} (k : GE B w0 w a g X n m on K) (h : ∀ x, Y x → X x) : GE B w0 w a g Y n m on K := by
  obtain ⟨t, s, nx, H, L, h1, h2, h3⟩ := k.ex
  refine ⟨⟨t, s, nx, H, L, h1, fun x hx => h2 x (h x hx), ?_⟩, k.chg, k.low, k.lo, fun x hx => k.far x (h x hx)⟩
  rcases h3 with ⟨a1, a2, a3, a4⟩ | ⟨a1, u, I, M, a2, a3, a4, a5⟩
  · exact .inl ⟨a1, a2, a3, a4⟩
  · exact .inr ⟨a1, u, I, M, a2, a3, fun x hx => a4 x (h x hx), a5⟩
/-- the table and the map beside it have the same items -/
structure SameI (B : Nat) (w0 w : World) (a : Ar) (g mm : Nat) (K : List Nat) : Prop where
  ex : ∃ n m on, GE B w0 w a g (fun x => False ∨ x = mm) n m on K
  map : KMap kf kt w mm K
  low : B ≤ mm
theorem SameI.act {B : Nat} {w0 : World} {a : Ar} {g mm : Nat} {K K' : List Nat} {n m' : Nat} {on : Bool} (k : SameI B w0 w a g mm K) (h : GE B w0 w' a g (fun x => False ∨ x = mm) n m' on K') (hc : Chg (fun x => ¬ (False ∨ x = mm)) w w') : GE B w0 w' a g (fun x => False ∨ x = mm) n m' on K' ∧ KMap kf kt w' mm K := ⟨h, k.map.chg hc fun q => q (.inr rfl)⟩
theorem SameI.fresh {B : Nat} {w0 : World} {a : Ar} {g mm : Nat} {K : List Nat} (k : SameI B w0 w a g mm K) (hc : Chg (fun _ => False) w w') : SameI B w0 w' a g mm K := by
  obtain ⟨n, m, on, h⟩ := k.ex
  exact ⟨⟨n, m, on, h.fresh hc⟩, k.map.chg hc id, k.low⟩
theorem SameI.put {B : Nat} {w0 : World} {a : Ar} {g mm : Nat} {K K' : List Nat} {n m' : Nat} {on : Bool} (h : GE B w0 w a g (fun x => False ∨ x = mm) n m' on K) (hB : B ≤ mm) (hm : KMap kf kt w' mm K') (hp : K.Perm K') (hc : Chg (fun y => y = mm) w w') : SameI B w0 w' a g mm K' :=
  ⟨⟨n, m', on, (h.other hc fun y _ e => ⟨.inr e, e ▸ hB⟩).perm hp⟩, hm, hB⟩
set_option maxHeartbeats 4000000 in
theorem same_walk (A : Option Addr) (c : Nat) (l : List (List Int)) (w : World) (hl : SRow w [.i64, .i64] A c l) :
    Calls Try.prog 12 #[.slice A l.length c] w fun e w' => e = .returned (.bool true) ∧ Below w.heap.size w w' := by
  have hlm : l.length ≤ 9223372036854775807 := Nat.le_trans hl.cap hl.most
  replace hl := Lib.hid hl
  obtain ⟨ln, hn⟩ : ∃ n, l.length = n := ⟨_, rfl⟩
  rw [hn] at hlm ⊢
  replace hn := Lib.hid hn
  have hmm := @run_makeMap Try.prog
  go_enter Try.func12, Try.ntmps12
  go_wp2_with fail
  refine (works11_calls w).mono ?_
  rintro e wa ⟨rfl, hc⟩
  have CW := Lib.hid hc
  clear hc
  go_wp2_with fail
  refine (laid_calls wa).mono ?_
  rintro e w1 ⟨a, r, rfl, T⟩
  replace T := Lib.hid T
  go_wp2_with fail
  refine (GE.start T.out).mono ?_
  rintro e w2 ⟨g, rfl, K0, -⟩
  have BM := K0.chg.size
  have S0 : Hid (SameI wa.heap.size wa (w2.alloc (.map #[] 0)) a g w2.heap.size []) := ⟨⟨_, _, _, K0.with (Chg.alloc _ _ _) (by rw [World.size_alloc]; omega)⟩, KMap.made kf kt w2, BM⟩
  clear T K0 BM
  go_wp2_with fail
  generalize w2.alloc (.map #[] 0) = w3 at S0
  generalize w2.heap.size = mm at S0 ⊢
  have CBW : Hid (∀ W, Chg (fun b => wa.heap.size ≤ b) wa W → Below w.heap.size w W) := fun W hc => ((CW.out.mono fun _ _ h => h.elim).trans (hc.mono fun b _ hb => Nat.le_trans CW.out.size hb)).below (Nat.le_refl _) fun _ h => h
  go_loopg [8] 200 (fun q i wr => ∃ (k : Nat) (K : List Nat), i = .int .i64 k ∧ q = 200 - k ∧ k ≤ 200 ∧ k ≤ ln ∧ Hid (SameI wa.heap.size wa wr a g mm K))
  case atStart => exact ⟨0, _, rfl, rfl, by omega, by omega, S0.out⟩
  case round =>
    clear S0
    obtain ⟨k, K, rfl, hg, hk, hkn, S⟩ := hrel
    replace hg := Lib.hid hg
    by_cases hlt : k < ln ∧ k < 200
    · clear hmm
      obtain ⟨h1, h2⟩ := hlt
      have h1' : (k : Int) < ln := by omega
      have h2' : (k : Int) < 200 := by omega
      have CC : Chg (fun b => w.heap.size ≤ b) w wr := by
        obtain ⟨n, m, on, G⟩ := S.out.ex
        exact (CW.out.mono fun _ _ h => h.elim).trans (G.chg.mono fun b _ hb => Nat.le_trans CW.out.size hb)
      have SR := hl.out.chg CC (Nat.le_refl _)
      obtain ⟨ad, rfl, d0, d1⟩ := SR.fields k (by rw [hn.out]; exact h1) (by decide)
      have f0 := d0 .i64 rfl
      have f1 := d1 0 .i64 rfl
      simp only [List.length_cons, List.length_nil, Nat.reduceAdd, Nat.zero_add] at f0 f1
      clear d0 d1 SR CC
      generalize (l.getD k []).getD 0 0 = kind at f0
      generalize (l.getD k []).getD 1 0 = x1 at f1
      obtain ⟨kk, hkk, q1, -⟩ := small x1 30 (by decide)
      have PC : Hid (∀ W, Calls Try.prog 31 #[(.int .i64 x1)] W fun e w' => e = .returned ((.int .i64 (64 * (kk : Int)))) ∧ w' = W) := fun W => place10_calls x1 W kk hkk q1
      have SC := Lib.hid (fun W => keys_calls x1 W kk hkk q1)
      clear q1
      have OB := heap_alloc_at wr (.cells #[(.int .i64 kind), (.int .i64 x1)] 92)
      have S4 := Lib.hid (S.out.fresh (Chg.alloc (fun _ => False) wr (.cells #[(.int .i64 kind), (.int .i64 x1)] 92)))
      replace OB := Lib.hid OB
      have GX : Hid (∃ n m on, GE wa.heap.size wa (wr.alloc (.cells #[(.int .i64 kind), (.int .i64 x1)] 92)) a g (fun x => (False ∨ x = mm) ∨ x = wr.heap.size) n m on K) := by
        obtain ⟨n, m, on, G⟩ := S.out.ex
        exact ⟨n, m, on, G.with (Chg.alloc _ _ _) (by rw [World.size_alloc]; omega)⟩
      go_wp2_with fail
      generalize wr.alloc (.cells #[(.int .i64 kind), (.int .i64 x1)] 92) = w4 at OB S4 GX ⊢
      generalize wr.heap.size = ob at OB GX ⊢
      clear f0 f1 S
      refine (SC.out _).mono ?_
      rintro e w5 ⟨rfl, hc⟩
      have S5 := Lib.hid (S4.out.fresh hc)
      have GX5 : Hid (∃ n m on, GE wa.heap.size wa w5 a g (fun x => (False ∨ x = mm) ∨ x = ob) n m on K) := by
        obtain ⟨n, m, on, G⟩ := GX.out
        exact ⟨n, m, on, G.fresh hc⟩
      have OB5 := hc.keep OB.out id
      have o0 : w5.cell? ⟨ob, 0, none⟩ = some ((.int .i64 kind)) := by rw [blk_cell OB5]; rfl
      have o1 : w5.cell? ⟨ob, 1, none⟩ = some ((.int .i64 x1)) := by rw [blk_cell OB5]; rfl
      clear hc S4 OB OB5 GX
      go_upto_block 2 with fail
      go_cut [] (fun wx => ∃ K2 : List Nat, Hid (SameI wa.heap.size wa wx a g mm K2))
      case first =>
        obtain ⟨n, m, on, G⟩ := S5.out.ex
        by_cases e0 : kind = 0
        · have t0 : (kind == 0) = true := by rw [e0]; rfl
          clear e0
          by_cases hm : kk ∈ K
          · have lk : (Instr.lookup 90 (.map (some mm)) (.string (keyS kk)) false).run Try.prog w5 = .ok (.bool true) w5 := inb_yes S5.out.map hkk hm
            have lkd : (Instr.lookup 90 (.map (some mm)) (.string (keyS kk)) false).run Try.prog (World.drew w5) = .ok (.bool true) (World.drew w5) := inb_yes (S5.out.fresh (Chg.drew _ w5)).map hkk hm
            obtain ⟨n', m', on', G'⟩ := GX5.out
            have IN := (G'.fresh (Chg.drew _ w5)).insert hkk
            unfold insK insV at IN
            rw [if_pos hm, if_pos hm] at IN
            have o1d : (World.drew w5).cell? ⟨ob, 1, none⟩ = some ((.int .i64 x1)) := o1
            have LK : Hid (∀ W, KMap kf kt W mm K → (Instr.lookup 90 (.map (some mm)) (.string (keyS kk)) false).run Try.prog W = .ok (.bool true) W) := fun W h => inb_yes h hkk hm
            have PU : Hid (∀ W, KMap kf kt W mm K → ∃ w', (Instr.mapUpdate 90 (.map (some mm)) (.string (keyS kk)) (.bool true)).run Try.prog W = .ok () w' ∧ KMap kf kt w' mm (K) ∧ Chg (fun y => y = mm) W w') := fun W h => inb_again h hkk hm
            have SM := Lib.hid (fun W (hc : Chg (fun x => ¬ ((False ∨ x = mm) ∨ x = ob)) (World.drew w5) W) => (S5.out.fresh (Chg.drew _ w5)).map.chg hc fun q => q (.inl (.inr rfl)))
            have LO := Lib.hid S5.out.low
            replace IN := Lib.hid IN
            clear hm G SC S5 GX5 G'
            go_wp2_with fail
            go_region_held3 (fun w' => w'.cell? ⟨ob, 1, none⟩ = some ((.int .i64 x1)) ∧ (Instr.lookup 90 (.map (some mm)) (.string (keyS kk)) false).run Try.prog w' = .ok (.bool true) w') (go_keep)
              (first
                | (go_at_call 31; refine (PC.out _).mono ?_; rintro e w8 ⟨rfl, rfl⟩; skip)
                | (go_at_call 48; refine IN.out.mono ?_; rintro e w8 ⟨rfl, h8, hc⟩; have M8 := SM.out w8 hc; have lk8 := LK.out w8 M8; have o8 : w8.cell? ⟨ob, 1, none⟩ = some ((.int .i64 x1)) := hc.cell o1d (fun q => q (.inr rfl)); have G8 := Lib.hid (h8.less (fun x hx => (.inl hx : (False ∨ x = mm) ∨ x = ob))); replace M8 := Lib.hid M8; clear h8 hc; skip))
            all_goals
              (obtain ⟨w9, r9, M9, c9⟩ := PU.out w8 M8.out
               have S9 := Lib.hid (SameI.put G8.out LO.out M9 (List.Perm.refl _) c9)
               clear lk lkd lk8 M9 c9 o0 o1 o1d o8
               go_wp2_with fail
               clear r9
               go_meet
               exact ⟨_, S9.out⟩)
          · have lk : (Instr.lookup 90 (.map (some mm)) (.string (keyS kk)) false).run Try.prog w5 = .ok (.bool false) w5 := inb_no S5.out.map hkk hm
            have lkd : (Instr.lookup 90 (.map (some mm)) (.string (keyS kk)) false).run Try.prog (World.drew w5) = .ok (.bool false) (World.drew w5) := inb_no (S5.out.fresh (Chg.drew _ w5)).map hkk hm
            obtain ⟨n', m', on', G'⟩ := GX5.out
            have IN := (G'.fresh (Chg.drew _ w5)).insert hkk
            unfold insK insV at IN
            rw [if_neg hm, if_neg hm] at IN
            have o1d : (World.drew w5).cell? ⟨ob, 1, none⟩ = some ((.int .i64 x1)) := o1
            have LK : Hid (∀ W, KMap kf kt W mm K → (Instr.lookup 90 (.map (some mm)) (.string (keyS kk)) false).run Try.prog W = .ok (.bool false) W) := fun W h => inb_no h hkk hm
            have PU : Hid (∀ W, KMap kf kt W mm K → ∃ w', (Instr.mapUpdate 90 (.map (some mm)) (.string (keyS kk)) (.bool true)).run Try.prog W = .ok () w' ∧ KMap kf kt w' mm (kk :: K) ∧ Chg (fun y => y = mm) W w') := fun W h => inb_put h hkk hm
            have SM := Lib.hid (fun W (hc : Chg (fun x => ¬ ((False ∨ x = mm) ∨ x = ob)) (World.drew w5) W) => (S5.out.fresh (Chg.drew _ w5)).map.chg hc fun q => q (.inl (.inr rfl)))
            have LO := Lib.hid S5.out.low
            replace IN := Lib.hid IN
            clear hm G SC S5 GX5 G'
            go_wp2_with fail
            go_region_held3 (fun w' => w'.cell? ⟨ob, 1, none⟩ = some ((.int .i64 x1)) ∧ (Instr.lookup 90 (.map (some mm)) (.string (keyS kk)) false).run Try.prog w' = .ok (.bool false) w') (go_keep)
              (first
                | (go_at_call 31; refine (PC.out _).mono ?_; rintro e w8 ⟨rfl, rfl⟩; skip)
                | (go_at_call 48; refine IN.out.mono ?_; rintro e w8 ⟨rfl, h8, hc⟩; have M8 := SM.out w8 hc; have lk8 := LK.out w8 M8; have o8 : w8.cell? ⟨ob, 1, none⟩ = some ((.int .i64 x1)) := hc.cell o1d (fun q => q (.inr rfl)); have G8 := Lib.hid (h8.less (fun x hx => (.inl hx : (False ∨ x = mm) ∨ x = ob))); replace M8 := Lib.hid M8; clear h8 hc; skip))
            all_goals
              (obtain ⟨w9, r9, M9, c9⟩ := PU.out w8 M8.out
               have S9 := Lib.hid (SameI.put G8.out LO.out M9 (List.Perm.refl _) c9)
               clear lk lkd lk8 M9 c9 o0 o1 o1d o8
               go_wp2_with fail
               clear r9
               go_meet
               exact ⟨_, S9.out⟩)
        · have t0 : (kind == 0) = false := by rw [beq_eq_false_iff_ne]; exact e0
          clear e0
          by_cases e1 : kind = 1
          · have t1 : (kind == 1) = true := by rw [e1]; rfl
            clear e1
            by_cases hm : kk ∈ K
            · have DE := G.delete hkk
              unfold delKV at DE
              rw [if_pos hm] at DE
              have SM := Lib.hid (fun W (hc : Chg (fun x => ¬ (False ∨ x = mm)) w5 W) => S5.out.map.chg hc fun q => q (.inr rfl))
              have LK : Hid (∀ W, KMap kf kt W mm K → (Instr.lookup 90 (.map (some mm)) (.string (keyS kk)) false).run Try.prog W = .ok (.bool true) W) := fun W h => inb_yes h hkk hm
              have LO := Lib.hid S5.out.low
              replace DE := Lib.hid DE
              clear hm G SC S5 PC
              go_wp2_with fail
              refine DE.out.mono ?_
              rintro e w8 ⟨rfl, h8, hc⟩
              have M8 := SM.out w8 hc
              have lk8 := LK.out w8 M8
              obtain ⟨w9, r9, M9, c9⟩ := inb_del M8 hkk
              have S9 := Lib.hid (SameI.put h8 LO.out M9 (List.Perm.refl _) c9)
              clear h8 hc M8 M9 c9 o0 o1 DE SM LK
              go_wp2_with fail
              clear lk8 r9
              go_meet
              exact ⟨_, S9.out⟩
            · have DE := G.delete hkk
              unfold delKV at DE
              rw [if_neg hm] at DE
              have SM := Lib.hid (fun W (hc : Chg (fun x => ¬ (False ∨ x = mm)) w5 W) => S5.out.map.chg hc fun q => q (.inr rfl))
              have LK : Hid (∀ W, KMap kf kt W mm K → (Instr.lookup 90 (.map (some mm)) (.string (keyS kk)) false).run Try.prog W = .ok (.bool false) W) := fun W h => inb_no h hkk hm
              have LO := Lib.hid S5.out.low
              replace DE := Lib.hid DE
              clear hm G SC S5 PC
              go_wp2_with fail
              refine DE.out.mono ?_
              rintro e w8 ⟨rfl, h8, hc⟩
              have M8 := SM.out w8 hc
              have lk8 := LK.out w8 M8
              obtain ⟨w9, r9, M9, c9⟩ := inb_del M8 hkk
              have S9 := Lib.hid (SameI.put h8 LO.out M9 (List.Perm.refl _) c9)
              clear h8 hc M8 M9 c9 o0 o1 DE SM LK
              go_wp2_with fail
              clear lk8 r9
              go_meet
              exact ⟨_, S9.out⟩
          · have t1 : (kind == 1) = false := by rw [beq_eq_false_iff_ne]; exact e1
            clear e1
            by_cases e2 : kind = 2
            · have t2 : (kind == 2) = true := by rw [e2]; rfl
              clear e2
              cases on with
              | true =>
                have ST := G.start_on
                replace ST := Lib.hid ST
                have SM := Lib.hid (fun W (hc : Chg (fun x => ¬ (False ∨ x = mm)) w5 W) => S5.out.map.chg hc fun q => q (.inr rfl))
                have LO := Lib.hid S5.out.low
                clear G SC S5 PC o0 o1
                go_wp2_with fail
                refine ST.out.mono ?_
                rintro e w8 ⟨rfl, h8, hc⟩
                have S9 : Hid (SameI wa.heap.size wa w8 a g mm K) := ⟨⟨_, _, _, h8⟩, SM.out w8 hc, LO.out⟩
                clear h8 hc ST SM
                go_wp2_with fail
                go_meet
                exact ⟨_, S9.out⟩
              | false =>
                by_cases h64 : n = 64
                · subst h64
                  have ST := G.start_full
                  replace ST := Lib.hid ST
                  have SM := Lib.hid (fun W (hc : Chg (fun x => ¬ (False ∨ x = mm)) w5 W) => S5.out.map.chg hc fun q => q (.inr rfl))
                  have LO := Lib.hid S5.out.low
                  clear G SC S5 PC o0 o1
                  go_wp2_with fail
                  refine ST.out.mono ?_
                  rintro e w8 ⟨rfl, h8, hc⟩
                  have S9 : Hid (SameI wa.heap.size wa w8 a g mm K) := ⟨⟨_, _, _, h8⟩, SM.out w8 hc, LO.out⟩
                  clear h8 hc ST SM
                  go_wp2_with fail
                  go_meet
                  exact ⟨_, S9.out⟩

                · have ST := G.start_new h64
                  replace ST := Lib.hid ST
                  have SM := Lib.hid (fun W (hc : Chg (fun x => ¬ (False ∨ x = mm)) w5 W) => S5.out.map.chg hc fun q => q (.inr rfl))
                  have LO := Lib.hid S5.out.low
                  clear G SC S5 PC o0 o1
                  go_wp2_with fail
                  refine ST.out.mono ?_
                  rintro e w8 ⟨rfl, h8, hc⟩
                  have S9 : Hid (SameI wa.heap.size wa w8 a g mm K) := ⟨⟨_, _, _, h8⟩, SM.out w8 hc, LO.out⟩
                  clear h8 hc ST SM
                  go_wp2_with fail
                  go_meet
                  exact ⟨_, S9.out⟩

            · have t2 : (kind == 2) = false := by rw [beq_eq_false_iff_ne]; exact e2
              clear e2
              cases on with
              | true =>
                have ST := G.step_on.2
                replace ST := Lib.hid ST
                have SM := Lib.hid (fun W (hc : Chg (fun x => ¬ (False ∨ x = mm)) w5 W) => S5.out.map.chg hc fun q => q (.inr rfl))
                have LO := Lib.hid S5.out.low
                clear G SC S5 PC o0 o1
                go_wp2_with fail
                refine ST.out.mono ?_
                rintro e w8 ⟨rfl, h8, hc⟩
                have S9 : Hid (SameI wa.heap.size wa w8 a g mm K) := ⟨⟨_, _, _, h8⟩, SM.out w8 hc, LO.out⟩
                clear h8 hc ST SM
                go_wp2_with fail
                go_meet
                exact ⟨_, S9.out⟩
              | false =>
                have ST := G.step_off
                replace ST := Lib.hid ST
                have SM := Lib.hid (fun W (hc : Chg (fun x => ¬ (False ∨ x = mm)) w5 W) => S5.out.map.chg hc fun q => q (.inr rfl))
                have LO := Lib.hid S5.out.low
                clear G SC S5 PC o0 o1
                go_wp2_with fail
                refine ST.out.mono ?_
                rintro e w8 ⟨rfl, h8, hc⟩
                have S9 : Hid (SameI wa.heap.size wa w8 a g mm K) := ⟨⟨_, _, _, h8⟩, SM.out w8 hc, LO.out⟩
                clear h8 hc ST SM
                go_wp2_with fail
                go_meet
                exact ⟨_, S9.out⟩
      case rest =>
        obtain ⟨K2, S6⟩ := hcut
        obtain ⟨r3, hr3, hr4⟩ : ∃ r3 : Nat, (k : Int).tmod 3 = r3 ∧ r3 ≤ 30 := ⟨k % 3, by rw [Int.tmod_eq_emod_of_nonneg (by omega)]; omega, by omega⟩
        clear S5 PC SC o0 o1
        go_wp2_with fail
        clear hr3
        go_loopg [13] (33 - r3) (fun q i wr => ∃ j : Nat, i = .int .i64 j ∧ q = 33 - j ∧ j ≤ 33 ∧ Hid (SameI wa.heap.size wa wr a g mm K2))
        case atStart => exact ⟨r3, rfl, by omega, by omega, S6.out⟩
        case round =>
          clear S6
          obtain ⟨j, rfl, hg2, hj, S7⟩ := hrel
          replace hg2 := Lib.hid hg2
          by_cases h3 : j < 30
          · have h3' : (j : Int) < 30 := by omega
            obtain ⟨kk, hkk, q1, -⟩ := small (j : Int) 30 (by decide)
            have PC : Hid (∀ W, Calls Try.prog 31 #[(.int .i64 j)] W fun e w' => e = .returned ((.int .i64 (64 * (kk : Int)))) ∧ w' = W) := fun W => place10_calls (j : Int) W kk hkk q1
            have SC := Lib.hid (fun W => keys_calls (j : Int) W kk hkk q1)
            clear q1
            by_cases hm : kk ∈ K2
            · have LK : Hid (∀ W, KMap kf kt W mm K2 → (Instr.lookup 90 (.map (some mm)) (.string (keyS kk)) false).run Try.prog W = .ok (.bool true) W) := fun W h => inb_yes h hkk hm
              have FI : Hid (∀ W, SameI wa.heap.size wa W a g mm K2 → Calls Try.prog 55 #[(.pointer (some ⟨g, 0, none⟩)), .string (keyS kk)] W fun e w' => e = .returned (.tuple #[.int .i64 (64 * (kk : Int)), .bool true]) ∧ Chg (fun _ => False) W w') := fun W h => by
                obtain ⟨n, m, on, G⟩ := h.ex
                have := G.find hkk
                rw [fin_yes hm] at this
                exact this
              clear hm
              go_wp2_with fail
              refine (SC.out _).mono ?_
              rintro e w8 ⟨rfl, hc⟩
              have S8 := Lib.hid (S7.out.fresh hc)
              clear hc S7
              go_wp2_with fail
              refine (FI.out _ S8.out).mono ?_
              rintro e w9 ⟨rfl, hc⟩
              have S9 := Lib.hid (S8.out.fresh hc)
              clear hc S8
              go_wp2_with fail
              refine (SC.out _).mono ?_
              rintro e w10 ⟨rfl, hc⟩
              have S10 := Lib.hid (S9.out.fresh hc)
              have lk := LK.out _ S10.out.map
              clear hc S9
              go_wp2_with fail
              refine (PC.out _).mono ?_
              rintro e w11 ⟨rfl, rfl⟩
              clear lk
              go_wp2_with fail
              go_roundg (33 - (j + 3))
              case measure => have := hg2.out; omega
              case rel => exact ⟨j + 3, rfl, rfl, by omega, S10.out⟩
            · have LK : Hid (∀ W, KMap kf kt W mm K2 → (Instr.lookup 90 (.map (some mm)) (.string (keyS kk)) false).run Try.prog W = .ok (.bool false) W) := fun W h => inb_no h hkk hm
              have FI : Hid (∀ W, SameI wa.heap.size wa W a g mm K2 → Calls Try.prog 55 #[(.pointer (some ⟨g, 0, none⟩)), .string (keyS kk)] W fun e w' => e = .returned (.tuple #[.int .i64 0, .bool false]) ∧ Chg (fun _ => False) W w') := fun W h => by
                obtain ⟨n, m, on, G⟩ := h.ex
                have := G.find hkk
                rw [fin_no hm] at this
                exact this
              clear hm
              go_wp2_with fail
              refine (SC.out _).mono ?_
              rintro e w8 ⟨rfl, hc⟩
              have S8 := Lib.hid (S7.out.fresh hc)
              clear hc S7
              go_wp2_with fail
              refine (FI.out _ S8.out).mono ?_
              rintro e w9 ⟨rfl, hc⟩
              have S9 := Lib.hid (S8.out.fresh hc)
              clear hc S8
              go_wp2_with fail
              refine (SC.out _).mono ?_
              rintro e w10 ⟨rfl, hc⟩
              have S10 := Lib.hid (S9.out.fresh hc)
              have lk := LK.out _ S10.out.map
              clear hc S9
              go_wp2_with fail
              clear lk
              go_roundg (33 - (j + 3))
              case measure => have := hg2.out; omega
              case rel => exact ⟨j + 3, rfl, rfl, by omega, S10.out⟩
          · have h3' : ¬ (j : Int) < 30 := by omega
            go_wp2_with fail
            go_roundg (200 - (k + 1))
            case measure => have := hg.out; omega
            case rel => exact ⟨k + 1, K2, rfl, rfl, by omega, by omega, S7.out⟩
    · have hend : ((ln : Int) ≤ k) ∨ ((k : Int) < ln ∧ ¬ (k : Int) < 200) := by omega
      have LN : Hid (Calls Try.prog 50 #[(.pointer (some ⟨g, 0, none⟩))] wr fun e w' => e = .returned (.int .i64 K.length) ∧ SameI wa.heap.size wa w' a g mm K) := by
        obtain ⟨n, m, on, G⟩ := S.out.ex
        obtain ⟨P, hP, AL, LN⟩ := G.both
        exact LN.mono fun e w' ⟨h1, h2⟩ => ⟨h1, S.out.fresh h2⟩
      have FB : Hid (∀ W, SameI wa.heap.size wa W a g mm K → Below w.heap.size w W) := fun W h => by
        obtain ⟨n, m, on, G⟩ := h.ex
        exact CBW.out _ G.chg
      clear hmm S
      rcases hend with h1' | ⟨h1', h2'⟩
      all_goals
        (go_wp2_with fail
         refine LN.out.mono ?_
         rintro e w8 ⟨rfl, S8⟩
         have ll := inb_len S8.map
         have F := Lib.hid (FB.out _ S8)
         clear S8 LN
         go_wp2_with fail
         go_ret
         exact ⟨rfl, F.out⟩)
end Go.Proofs.Ytolpjgpimholcaa.Grow


/- Helper lemmas; no conditions of their own. -/
import Derived.Test.YtennokckmjcefaaGreatDoorGWc6
set_option linter.unusedVariables false
namespace Go.Vc
open Go Go.Pw
structure Hide (q : Prop) : Prop where
 h : q
theorem GO {p q : Prop} (k : q) (h : Hide q → p := by intro k_; (repeat ((first | refine Go.Vc.Num.i64 (by omega) (by omega) ?_ | refine Go.Vc.Num.i32 (by omega) (by omega) ?_ | refine Go.Vc.Num.u8 (by omega) (by omega) ?_ | refine Go.Vc.Br.tt ?_ | refine Go.Vc.Br.ff ?_ | refine Go.Vc.Br.not_yes ?_ | refine Go.Vc.Br.dec_yes (by omega) ?_ | refine Go.Vc.Br.dec_no (by omega) ?_ | refine Go.Vc.Br.beq_yes (by omega) ?_ | refine Go.Vc.Br.beq_no (by omega) ?_ | refine Go.Vc.Br.bne_yes (by omega) ?_ | refine Go.Vc.Br.bne_no (by omega) ?_ | refine Go.Vc.Draw.text (by decide +kernel) ?_ | refine Go.Vc.Idx.lit (j := 0) rfl (by omega) ?_ | refine Go.Vc.Idx.lit (j := 1) rfl (by omega) ?_ | refine Go.Vc.Idx.lit (j := 2) rfl (by omega) ?_ | refine Go.Vc.Idx.lit (j := 3) rfl (by omega) ?_ | refine Go.Vc.Idx.lit (j := 4) rfl (by omega) ?_ | refine Go.Vc.Idx.lit (j := 5) rfl (by omega) ?_ | refine Go.Vc.Idx.lit (j := 6) rfl (by omega) ?_ | refine Go.Vc.Idx.lit (j := 7) rfl (by omega) ?_ | refine Go.Vc.Idx.nat (by omega) ?_ | refine Go.Vc.Idx.int (by omega) (by omega) ?_ | refine Go.Vc.Cut.to (by omega) ?_ | refine Go.Vc.Cut.from (by omega) (by omega) ?_ | refine Go.Vc.Cut.both (by omega) (by omega) ?_ | refine Go.Vc.Br.dec_yes (by with_reducible assumption) ?_ | refine Go.Vc.Br.dec_no (by with_reducible assumption) ?_ | refine Go.Vc.Br.yes (by with_reducible assumption) ?_ | refine Go.Vc.Br.no (by with_reducible assumption) ?_ | refine Go.Vc.Load.one (by rfl) (by with_reducible assumption) ?_ | refine (?_ : Go.Vc.Sat _ _ _ _ _ _ _) | refine (?_ : Go.Vc.Then _ _ _ _ _ _ _ _)); (first | refine Go.Vc.Then.go hmix ?_ | refine Go.Vc.Sat.go hmix ?_ | skip); conv => whnf)); exact Hide.h k_) : p := h ⟨k⟩
theorem LGO {p q : Prop} (k : q) (h : Hide q → p := by intro k_; (repeat ((first | refine Go.Vc.Br.dec_yes rfl ?_ | refine Go.Vc.Num.i64 (by omega) (by omega) ?_ | refine Go.Vc.Num.i32 (by omega) (by omega) ?_ | refine Go.Vc.Num.u8 (by omega) (by omega) ?_ | refine Go.Vc.Br.tt ?_ | refine Go.Vc.Br.ff ?_ | refine Go.Vc.Br.not_yes ?_ | refine Go.Vc.Br.dec_yes (by omega) ?_ | refine Go.Vc.Br.dec_no (by omega) ?_ | refine Go.Vc.Br.beq_yes (by omega) ?_ | refine Go.Vc.Br.beq_no (by omega) ?_ | refine Go.Vc.Br.bne_yes (by omega) ?_ | refine Go.Vc.Br.bne_no (by omega) ?_ | refine Go.Vc.Draw.text (by decide +kernel) ?_ | refine Go.Vc.Idx.lit (j := 0) rfl (by omega) ?_ | refine Go.Vc.Idx.lit (j := 1) rfl (by omega) ?_ | refine Go.Vc.Idx.lit (j := 2) rfl (by omega) ?_ | refine Go.Vc.Idx.lit (j := 3) rfl (by omega) ?_ | refine Go.Vc.Idx.lit (j := 4) rfl (by omega) ?_ | refine Go.Vc.Idx.lit (j := 5) rfl (by omega) ?_ | refine Go.Vc.Idx.lit (j := 6) rfl (by omega) ?_ | refine Go.Vc.Idx.lit (j := 7) rfl (by omega) ?_ | refine Go.Vc.Idx.nat (by omega) ?_ | refine Go.Vc.Idx.int (by omega) (by omega) ?_ | refine Go.Vc.Cut.to (by omega) ?_ | refine Go.Vc.Cut.from (by omega) (by omega) ?_ | refine Go.Vc.Cut.both (by omega) (by omega) ?_ | refine Go.Vc.Br.dec_yes (by with_reducible assumption) ?_ | refine Go.Vc.Br.dec_no (by with_reducible assumption) ?_ | refine Go.Vc.Br.yes (by with_reducible assumption) ?_ | refine Go.Vc.Br.no (by with_reducible assumption) ?_ | refine Go.Vc.Load.one (by rfl) (by with_reducible assumption) ?_ | refine (?_ : Go.Vc.Sat _ _ _ _ _ _ _) | refine (?_ : Go.Vc.Then _ _ _ _ _ _ _ _)); (first | refine Go.Vc.Then.go hmix ?_ | refine Go.Vc.Sat.go hmix ?_ | skip); conv => whnf)); exact Hide.h k_) : p := h ⟨k⟩
theorem GW {p q : Prop} (k : q) (h : Hide q → p := by intro k_; ((first | refine Go.Vc.Then.go hmix ?_ | refine Go.Vc.Sat.go hmix ?_ | refine ResK.go ?_ | skip); conv => whnf); exact Hide.h k_) : p := h ⟨k⟩
theorem RT {p q : Prop} (k : q) (h : Hide q → p := by intro k_; (refine ⟨_, rfl, ?_⟩; (first | refine Go.Vc.Then.go hmix ?_ | refine Go.Vc.Sat.go hmix ?_ | refine ResK.go ?_ | skip); conv => whnf); exact Hide.h k_) : p := h ⟨k⟩
theorem NL {a b : Nat} (h : Nat.ble a b = true := by exact rfl) : a ≤ b := Nat.le_of_ble_eq_true h
theorem _root_.Go.OM {p : Prop} (h : p := by omega) : p := h
theorem _root_.Go.DO {p : Prop} (h : p := by dsimp only; omega) : p := h
theorem _root_.Go.VS {p : Prop} (h : p := by exact Go.Vc.v_int (by simp)) : p := h
theorem _root_.Go.FR {p : Prop} (h : p := by repeat (first | exact trivial | refine And.intro rfl ?_ | refine And.intro (Go.Vc.v_int (by simp)) ?_)) : p := h
abbrev _root_.Go.yaa := @List.length_append
abbrev _root_.Go.yab := @List.length_cons
abbrev _root_.Go.yac := @List.mem_singleton
abbrev _root_.Go.yad := @List.take_succ_eq_append_getElem
abbrev _root_.Go.yae := @List.mem_cons_self
abbrev _root_.Go.yaf := @List.length_map
abbrev _root_.Go.yag := @Nat.le_refl
abbrev _root_.Go.yah := @List.mem_cons
abbrev _root_.Go.yai := @List.mem_cons_of_mem
abbrev _root_.Go.yaj := @List.mem_append
abbrev _root_.Go.yak := @List.getElem_mem
abbrev _root_.Go.yal := @Nat.zero_le
abbrev _root_.Go.yam := @List.pairwise_cons
abbrev _root_.Go.yan := @List.eq_nil_of_length_eq_zero
abbrev _root_.Go.yao := @List.flatMap_cons
abbrev _root_.Go.yap := @List.append_assoc
abbrev _root_.Go.yaq := @Bool.and_eq_true
abbrev _root_.Go.yar := @List.length_take
abbrev _root_.Go.yas := @List.map_cons
abbrev _root_.Go.yat := @List.drop_eq_getElem_cons
abbrev _root_.Go.yau := @List.length_drop
abbrev _root_.Go.yav := @List.mem_filter
abbrev _root_.Go.yaw := @Nat.le_trans
abbrev _root_.Go.yax := @List.mem_map_of_mem
abbrev _root_.Go.yay := @List.mem_map
abbrev _root_.Go.yaz := @List.take_of_length_le
abbrev _root_.Go.yaA := @List.append_nil
abbrev _root_.Go.yaB := @List.take_append_drop
abbrev _root_.Go.yaC := @List.flatMap_append
abbrev _root_.Go.yaD := @List.take_length
abbrev _root_.Go.yaE := @List.length_nil
abbrev _root_.Go.yaF := @List.all_eq_true
abbrev _root_.Go.yaG := @List.pairwise_append
abbrev _root_.Go.yaH := @List.pairwise_iff_getElem
abbrev _root_.Go.yaI := @List.exists_cons_of_ne_nil
abbrev _root_.Go.yaJ := @Nat.min_eq_left
abbrev _root_.Go.yaK := @List.length_filter_le
abbrev _root_.Go.yaL := @List.map_append
abbrev _root_.Go.yaM := @List.drop_drop
abbrev _root_.Go.yaN := @List.length_pos_iff
abbrev _root_.Go.yaO := @Nat.zero_mul
abbrev _root_.Go.yaP := @List.drop_eq_nil_of_le
abbrev _root_.Go.yaQ := @List.filter_eq_self
abbrev _root_.Go.yaR := @List.getD_cons_zero
abbrev _root_.Go.yaS := @List.not_mem_nil
abbrev _root_.Go.yaT := @List.nil_append
abbrev _root_.Go.yaU := @Nat.zero_add
abbrev _root_.Go.yaV := @Nat.mul_le_mul_right
abbrev _root_.Go.yaW := @List.cons_append
abbrev _root_.Go.yaX := @List.mem_append_left
abbrev _root_.Go.yaY := @List.sum_cons
abbrev _root_.Go.yaZ := @List.take_left
abbrev _root_.Go.yba := @List.length_mergeSort
abbrev _root_.Go.ybb := @Nat.sub_zero
abbrev _root_.Go.ybc := @List.getD_cons_succ
abbrev _root_.Go.ybd := @List.mem_take_iff_getElem
abbrev _root_.Go.ybe := @List.map_map
abbrev _root_.Go.ybf := @List.filter_append
abbrev _root_.Go.ybg := @List.map_nil
abbrev _root_.Go.ybh := @List.getElem_of_mem
abbrev _root_.Go.ybi := @List.getElem_map
abbrev _root_.Go.ybj := @Nat.eq_zero_or_pos
abbrev _root_.Go.ybk := @Option.map_eq_some_iff
abbrev _root_.Go.ybl := @List.mem_flatMap
abbrev _root_.Go.ybm := @List.length_set
abbrev _root_.Go.ybn := @Option.map_some
abbrev _root_.Go.ybo := @List.mem_of_mem_take
abbrev _root_.Go.ybp := @Nat.succ_mul
abbrev _root_.Go.ybq := @List.filter_cons
abbrev _root_.Go.ybr := @List.nodup_append
abbrev _root_.Go.ybs := @List.filter_sublist
abbrev _root_.Go.ybt := @Nat.and_two_pow_sub_one_eq_mod
abbrev _root_.Go.ybu := @List.length_singleton
abbrev _root_.Go.ybv := @Nat.lt_of_lt_of_le
abbrev _root_.Go.ybw := @Nat.add_sub_cancel_left
abbrev _root_.Go.ybx := @List.filter_cons_of_neg
abbrev _root_.Go.yby := @Nat.lt_or_ge
abbrev _root_.Go.ybz := @List.take_take
abbrev _root_.Go.ybA := @List.pairwise_map
abbrev _root_.Go.ybB := @Nat.add_mul
abbrev _root_.Go.ybC := @List.foldl_cons
abbrev _root_.Go.ybD := @List.drop_of_length_le
abbrev _root_.Go.ybE := @List.mem_append_right
abbrev _root_.Go.ybF := @List.exists_mem_of_ne_nil
abbrev _root_.Go.ybG := @List.take_zero
abbrev _root_.Go.ybH := @Bool.or_eq_true
abbrev _root_.Go.ybI := @List.length_filterMap_le
abbrev _root_.Go.ybJ := @Nat.add_zero
abbrev _root_.Go.ybK := @Array.length_toList
abbrev _root_.Go.ybL := @List.pairwise_mergeSort
abbrev _root_.Go.ybM := @List.filter_cons_of_pos
abbrev _root_.Go.ybN := @List.flatMap_singleton
abbrev _root_.Go.ybO := @List.length_eq_one_iff
abbrev _root_.Go.ybP := @Bool.false_eq_true
abbrev _root_.Go.ybQ := @List.flatMap_nil
abbrev _root_.Go.ybR := @List.take_succ_cons
abbrev _root_.Go.ybS := @Array.toList_modify
abbrev _root_.Go.ybT := @Nat.add_assoc
abbrev _root_.Go.ybU := @List.filter_filter
abbrev _root_.Go.ybV := @List.nodup_cons
abbrev _root_.Go.ybW := @List.pairwise_singleton
abbrev _root_.Go.ybX := @Bool.not_eq_true'
abbrev _root_.Go.ybY := @List.map_id
abbrev _root_.Go.ybZ := @List.all_eq_false
abbrev _root_.Go.yca := @List.filter_congr
abbrev _root_.Go.ycb := @Nat.sub_self
abbrev _root_.Go.ycc := @Nat.mul_comm
abbrev _root_.Go.ycd := @Nat.le_add_right
abbrev _root_.Go.yce := @List.drop_length
end Go.Vc

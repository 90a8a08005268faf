import Derived.Test.YtkmbllgoepcojaaDoorLxTy
/- The program's functions in the language (printed by mk.py). -/
set_option linter.unusedVariables false
set_option maxRecDepth 100000
namespace Go.Lx

/-- gosem.cut.init -/
def L_gosem_cut_init : Fn := Fn.mk
  (.region [⟨(some 0), .call 0 [], none⟩] none)
  []
abbrev c_gosem_cut_init : Nat := 196

/-- bailiff/bailifflaw10.TableTurns -/
def L_bailifflaw10_TableTurns : Fn := Fn.mk
  (.seq (.region [⟨(some 4), .box 2 (.t 1), none⟩,
    ⟨(some 5), .box 16 (.t 2), none⟩,
    ⟨(some 6), .mv (.c (.s (.c (.bool false)))), none⟩] none)
  (.seq (.seq (.region [⟨(some 18), .mv (.t 0), none⟩,
    ⟨(some 19), .call 1 [(.t 18)], none⟩,
    ⟨(some 20), .mv (.t 19), none⟩,
    ⟨(some 21), .fld 0 (.t 4), (some (20, false))⟩,
    ⟨(some 22), .load 1 false (.t 21), (some (20, false))⟩,
    ⟨(some 23), .len true (.t 22), (some (20, false))⟩,
    ⟨(some 24), .bin (.plain .gtr) (.t 23) (.c (.s (.c (.int .i64 9000)))), (some (20, false))⟩,
    ⟨(some 25), .pick (.t 20) (.c (.s (.c (.bool true)))) (.t 24), none⟩] none)
  (.cond (.t 25) (.seq (.region [⟨(some 6), .mv (.c (.s (.c (.bool true)))), none⟩] none)
  (.ret))
  (.skip)))
  (.seq (.region [⟨(some 26), .mv (.t 0), none⟩,
    ⟨(some 27), .call 2 [(.t 26)], none⟩,
    ⟨(some 7), .mv (.t 27), none⟩] none)
  (.seq (.region [⟨(some 28), .mv (.t 7), none⟩,
    ⟨(some 29), .mv (.t 0), none⟩,
    ⟨(some 30), .len false (.t 29), none⟩,
    ⟨(some 31), .slice 18 (.t 28) none (some (.t 30)) none, none⟩,
    ⟨(some 8), .mv (.t 31), none⟩] none)
  (.seq (.region [⟨(some 33), .mv (.t 8), none⟩,
    ⟨(some 34), .load 2 true (.t 4), none⟩,
    ⟨(some 35), .load 16 true (.t 5), none⟩,
    ⟨(some 36), .call 3 [(.t 33), (.t 34), (.t 35)], none⟩,
    ⟨(some 32), .mv (.t 36), none⟩,
    ⟨(some 37), .extract (.t 32) 0, none⟩,
    ⟨(some 38), .extract (.t 32) 1, none⟩,
    ⟨(some 9), .mv (.t 37), none⟩,
    ⟨(some 10), .mv (.t 38), none⟩] none)
  (.seq (.region [⟨(some 40), .mv (.t 0), none⟩,
    ⟨(some 41), .load 2 true (.t 4), none⟩,
    ⟨(some 42), .load 16 true (.t 5), none⟩,
    ⟨(some 43), .call 4 [(.t 40), (.t 41), (.t 42)], none⟩,
    ⟨(some 39), .mv (.t 43), none⟩,
    ⟨(some 44), .extract (.t 39) 0, none⟩,
    ⟨(some 45), .extract (.t 39) 1, none⟩,
    ⟨(some 11), .mv (.t 44), none⟩,
    ⟨(some 12), .mv (.t 45), none⟩] none)
  (.seq (.region [⟨(some 47), .mv (.t 8), none⟩,
    ⟨(some 48), .load 2 true (.t 4), none⟩,
    ⟨(some 49), .call 5 [(.t 47), (.t 48)], none⟩,
    ⟨(some 46), .mv (.t 49), none⟩,
    ⟨(some 50), .extract (.t 46) 0, none⟩,
    ⟨(some 51), .extract (.t 46) 1, none⟩,
    ⟨(some 13), .mv (.t 50), none⟩,
    ⟨(some 14), .mv (.t 51), none⟩] none)
  (.seq (.region [⟨(some 53), .mv (.t 0), none⟩,
    ⟨(some 54), .load 2 true (.t 4), none⟩,
    ⟨(some 55), .call 6 [(.t 53), (.t 54)], none⟩,
    ⟨(some 52), .mv (.t 55), none⟩,
    ⟨(some 56), .extract (.t 52) 0, none⟩,
    ⟨(some 57), .extract (.t 52) 1, none⟩,
    ⟨(some 15), .mv (.t 56), none⟩,
    ⟨(some 16), .mv (.t 57), none⟩] none)
  (.seq (.seq (.region [⟨(some 58), .mv (.t 10), none⟩,
    ⟨(some 59), .mv (.t 12), none⟩,
    ⟨(some 60), .bin (.plain .neq) (.t 58) (.t 59), none⟩,
    ⟨(some 61), .mv (.t 60), none⟩,
    ⟨(some 62), .mv (.t 14), (some (61, false))⟩,
    ⟨(some 63), .mv (.t 16), (some (61, false))⟩,
    ⟨(some 64), .bin (.plain .neq) (.t 62) (.t 63), (some (61, false))⟩,
    ⟨(some 65), .pick (.t 61) (.c (.s (.c (.bool true)))) (.t 64), none⟩,
    ⟨(some 66), .mv (.t 65), none⟩,
    ⟨(some 67), .mv (.t 9), (some (66, false))⟩,
    ⟨(some 68), .mv (.t 11), (some (66, false))⟩,
    ⟨(some 69), .call 7 [(.t 67), (.t 68)], (some (66, false))⟩,
    ⟨(some 70), .un .not (.t 69), (some (66, false))⟩,
    ⟨(some 71), .pick (.t 66) (.c (.s (.c (.bool true)))) (.t 70), none⟩,
    ⟨(some 72), .mv (.t 71), none⟩,
    ⟨(some 73), .mv (.t 13), (some (72, false))⟩,
    ⟨(some 74), .mv (.t 15), (some (72, false))⟩,
    ⟨(some 75), .call 7 [(.t 73), (.t 74)], (some (72, false))⟩,
    ⟨(some 76), .un .not (.t 75), (some (72, false))⟩,
    ⟨(some 77), .pick (.t 72) (.c (.s (.c (.bool true)))) (.t 76), none⟩,
    ⟨(some 78), .mv (.t 77), none⟩,
    ⟨(some 79), .mv (.t 7), (some (78, false))⟩,
    ⟨(some 80), .mv (.t 0), (some (78, false))⟩,
    ⟨(some 81), .call 8 [(.t 79), (.t 80)], (some (78, false))⟩,
    ⟨(some 82), .un .not (.t 81), (some (78, false))⟩,
    ⟨(some 83), .pick (.t 78) (.c (.s (.c (.bool true)))) (.t 82), none⟩] none)
  (.cond (.t 83) (.seq (.region [⟨(some 6), .mv (.c (.s (.c (.bool false)))), none⟩] none)
  (.ret))
  (.skip)))
  (.seq (.region [⟨(some 84), .mv (.t 9), none⟩,
    ⟨(some 85), .call 9 [(.t 84)], none⟩] none)
  (.seq (.region [⟨(some 86), .mv (.t 13), none⟩,
    ⟨(some 87), .call 9 [(.t 86)], none⟩] none)
  (.seq (.region [⟨(some 89), .mv (.t 8), none⟩,
    ⟨(some 90), .load 2 true (.t 4), none⟩,
    ⟨(some 91), .load 16 true (.t 5), none⟩,
    ⟨(some 92), .call 3 [(.t 89), (.t 90), (.t 91)], none⟩,
    ⟨(some 88), .mv (.t 92), none⟩,
    ⟨(some 93), .extract (.t 88) 0, none⟩,
    ⟨(some 94), .extract (.t 88) 1, none⟩,
    ⟨(some 17), .mv (.t 93), none⟩,
    ⟨(some 10), .mv (.t 94), none⟩] none)
  (.seq (.region [⟨(some 95), .mv (.t 10), none⟩,
    ⟨(some 96), .mv (.t 12), none⟩,
    ⟨(some 97), .bin (.plain .eql) (.t 95) (.t 96), none⟩,
    ⟨(some 98), .mv (.t 97), none⟩,
    ⟨(some 99), .mv (.t 17), (some (98, true))⟩,
    ⟨(some 100), .mv (.t 11), (some (98, true))⟩,
    ⟨(some 101), .call 7 [(.t 99), (.t 100)], (some (98, true))⟩,
    ⟨(some 102), .pick (.t 98) (.t 101) (.c (.s (.c (.bool false)))), none⟩,
    ⟨(some 103), .mv (.t 102), none⟩,
    ⟨(some 104), .mv (.t 7), (some (103, true))⟩,
    ⟨(some 105), .mv (.t 0), (some (103, true))⟩,
    ⟨(some 106), .call 8 [(.t 104), (.t 105)], (some (103, true))⟩,
    ⟨(some 107), .pick (.t 103) (.t 106) (.c (.s (.c (.bool false)))), none⟩,
    ⟨(some 6), .mv (.t 107), none⟩] none)
  (.ret))))))))))))))
  [.tmp 6]
abbrev c_bailifflaw10_TableTurns : Nat := 181

/-- bailiff/bailifflaw08.KeyOrder -/
def L_bailifflaw08_KeyOrder : Fn := Fn.mk
  (.seq (.region [⟨(some 2), .mv (.c (.s (.c (.bool false)))), none⟩] none)
  (.seq (.seq (.region [⟨(some 7), .mv (.t 0), none⟩,
    ⟨(some 8), .len false (.t 7), none⟩,
    ⟨(some 9), .bin (.plain .gtr) (.t 8) (.c (.s (.c (.int .i64 400)))), none⟩] none)
  (.cond (.t 9) (.seq (.region [⟨(some 2), .mv (.c (.s (.c (.bool true)))), none⟩] none)
  (.ret))
  (.skip)))
  (.seq (.region [⟨(some 3), .mv (.c (.s (.full []))), none⟩] none)
  (.seq (.region [⟨(some 10), .mv (.t 3), none⟩,
    ⟨(some 11), .mv (.t 0), none⟩,
    ⟨(some 12), .append 24 zKey (.t 10) (.t 11), none⟩,
    ⟨(some 3), .mv (.t 12), none⟩] none)
  (.seq (.region [⟨(some 13), .mv (.t 3), none⟩,
    ⟨(some 14), .build zKey [(0, 1, (.c (.s (.c (.str ⟨#[55, 55]⟩)))))], none⟩,
    ⟨(some 15), .mkSl zKey 1 [(0, (.t 14))], none⟩,
    ⟨(some 16), .append 24 zKey (.t 13) (.t 15), none⟩,
    ⟨(some 3), .mv (.t 16), none⟩] none)
  (.seq (.region [⟨(some 17), .mv (.t 3), none⟩,
    ⟨(some 18), .mv (.t 0), none⟩,
    ⟨(some 19), .len false (.t 18), none⟩,
    ⟨(some 20), .slice 2 (.t 17) none (some (.t 19)) none, none⟩,
    ⟨(some 21), .call 10 [(.t 20)], none⟩,
    ⟨(some 4), .mv (.t 21), none⟩] none)
  (.seq (.region [⟨(some 22), .mv (.t 0), none⟩,
    ⟨(some 23), .call 11 [(.t 22)], none⟩,
    ⟨(some 5), .mv (.t 23), none⟩] none)
  (.seq (.seq (.region [⟨(some 24), .mv (.t 4), none⟩,
    ⟨(some 25), .mv (.t 5), none⟩,
    ⟨(some 26), .call 12 [(.t 24), (.t 25)], none⟩,
    ⟨(some 27), .un .not (.t 26), none⟩] none)
  (.cond (.t 27) (.seq (.region [⟨(some 2), .mv (.c (.s (.c (.bool false)))), none⟩] none)
  (.ret))
  (.skip)))
  (.seq (.seq (.region [⟨(some 6), .mv (.c (.s (.c (.int .i64 0)))), none⟩] none)
  (.block 0 (.loop (.seq (.seq (.region [⟨(some 28), .mv (.t 6), none⟩,
    ⟨(some 29), .mv (.t 4), none⟩,
    ⟨(some 30), .len false (.t 29), none⟩,
    ⟨(some 31), .bin (.plain .lss) (.t 28) (.t 30), none⟩] none)
  (.cond (.t 31) (.skip)
  (.exit 0)))
  (.seq (.block 1 (.region [⟨(some 34), .mv (.t 4), none⟩,
    ⟨(some 35), .mv (.t 6), none⟩,
    ⟨(some 36), .build zKey [(0, 1, (.c (.s (.c (.str ⟨#[55, 55]⟩)))))], none⟩,
    ⟨(some 37), .idxA 2 (.t 34) (.t 35), none⟩,
    ⟨none, .store 2 (.t 37) (.t 36), none⟩] none))
  (.region [⟨(some 32), .mv (.t 6), none⟩,
    ⟨(some 33), .bin (.plain .add) (.t 32) (.c (.s (.c (.int .i64 1)))), none⟩,
    ⟨(some 6), .mv (.t 33), none⟩] none))))))
  (.seq (.region [⟨(some 38), .mv (.t 3), none⟩,
    ⟨(some 39), .mv (.t 0), none⟩,
    ⟨(some 40), .len false (.t 39), none⟩,
    ⟨(some 41), .slice 2 (.t 38) none (some (.t 40)) none, none⟩,
    ⟨(some 42), .mv (.t 0), none⟩,
    ⟨(some 43), .call 12 [(.t 41), (.t 42)], none⟩,
    ⟨(some 44), .mv (.t 43), none⟩,
    ⟨(some 45), .mv (.t 3), (some (44, true))⟩,
    ⟨(some 46), .mv (.t 0), (some (44, true))⟩,
    ⟨(some 47), .len false (.t 46), (some (44, true))⟩,
    ⟨(some 48), .idxA 2 (.t 45) (.t 47), (some (44, true))⟩,
    ⟨(some 49), .load 2 true (.t 48), (some (44, true))⟩,
    ⟨(some 50), .build zKey [(0, 1, (.c (.s (.c (.str ⟨#[55, 55]⟩)))))], (some (44, true))⟩,
    ⟨(some 51), .bin (.eqs [.str, .int .i64]) (.t 49) (.t 50), (some (44, true))⟩,
    ⟨(some 52), .pick (.t 44) (.t 51) (.c (.s (.c (.bool false)))), none⟩,
    ⟨(some 53), .mv (.t 52), none⟩,
    ⟨(some 54), .mv (.t 0), (some (53, true))⟩,
    ⟨(some 55), .call 10 [(.t 54)], (some (53, true))⟩,
    ⟨(some 56), .mv (.t 5), (some (53, true))⟩,
    ⟨(some 57), .call 12 [(.t 55), (.t 56)], (some (53, true))⟩,
    ⟨(some 58), .pick (.t 53) (.t 57) (.c (.s (.c (.bool false)))), none⟩,
    ⟨(some 2), .mv (.t 58), none⟩] none)
  (.ret)))))))))))
  [.tmp 2]
abbrev c_bailifflaw08_KeyOrder : Nat := 197

/-- bailiff/bailifflaw10.TableAsks -/
def L_bailifflaw10_TableAsks : Fn := Fn.mk
  (.seq (.region [⟨(some 3), .box 2 (.t 1), none⟩,
    ⟨(some 4), .mv (.c (.s (.c (.bool false)))), none⟩] none)
  (.seq (.seq (.region [⟨(some 30), .mv (.t 0), none⟩,
    ⟨(some 31), .call 1 [(.t 30)], none⟩,
    ⟨(some 32), .mv (.t 31), none⟩,
    ⟨(some 33), .fld 0 (.t 3), (some (32, false))⟩,
    ⟨(some 34), .load 1 false (.t 33), (some (32, false))⟩,
    ⟨(some 35), .len true (.t 34), (some (32, false))⟩,
    ⟨(some 36), .bin (.plain .gtr) (.t 35) (.c (.s (.c (.int .i64 9000)))), (some (32, false))⟩,
    ⟨(some 37), .pick (.t 32) (.c (.s (.c (.bool true)))) (.t 36), none⟩] none)
  (.cond (.t 37) (.seq (.region [⟨(some 4), .mv (.c (.s (.c (.bool true)))), none⟩] none)
  (.ret))
  (.skip)))
  (.seq (.seq (.region [⟨(some 38), .mv (.t 0), none⟩,
    ⟨(some 39), .len false (.t 38), none⟩,
    ⟨(some 40), .bin (.plain .gtr) (.t 39) (.c (.s (.c (.int .i64 1000)))), none⟩] none)
  (.cond (.t 40) (.seq (.region [⟨(some 41), .mv (.t 0), none⟩,
    ⟨(some 42), .call 13 [(.t 41)], none⟩,
    ⟨(some 43), .mv (.t 0), none⟩,
    ⟨(some 44), .call 14 [(.t 43)], none⟩,
    ⟨(some 45), .bin (.plain .eql) (.t 42) (.t 44), none⟩,
    ⟨(some 4), .mv (.t 45), none⟩] none)
  (.ret))
  (.skip)))
  (.seq (.region [⟨(some 46), .mv (.t 0), none⟩,
    ⟨(some 47), .call 2 [(.t 46)], none⟩,
    ⟨(some 5), .mv (.t 47), none⟩] none)
  (.seq (.region [⟨(some 48), .mv (.t 5), none⟩,
    ⟨(some 49), .mv (.t 0), none⟩,
    ⟨(some 50), .len false (.t 49), none⟩,
    ⟨(some 51), .slice 18 (.t 48) none (some (.t 50)) none, none⟩,
    ⟨(some 6), .mv (.t 51), none⟩] none)
  (.seq (.region [⟨(some 53), .mv (.t 6), none⟩,
    ⟨(some 54), .load 2 true (.t 3), none⟩,
    ⟨(some 55), .call 15 [(.t 53), (.t 54)], none⟩,
    ⟨(some 52), .mv (.t 55), none⟩,
    ⟨(some 56), .extract (.t 52) 0, none⟩,
    ⟨(some 57), .extract (.t 52) 1, none⟩,
    ⟨(some 58), .extract (.t 52) 2, none⟩,
    ⟨(some 7), .alloc zDesc, none⟩,
    ⟨none, .store 16 (.t 7) (.t 56), none⟩,
    ⟨(some 8), .mv (.t 57), none⟩,
    ⟨(some 9), .mv (.t 58), none⟩] none)
  (.seq (.region [⟨(some 60), .mv (.t 0), none⟩,
    ⟨(some 61), .load 2 true (.t 3), none⟩,
    ⟨(some 62), .call 16 [(.t 60), (.t 61)], none⟩,
    ⟨(some 59), .mv (.t 62), none⟩,
    ⟨(some 63), .extract (.t 59) 0, none⟩,
    ⟨(some 64), .extract (.t 59) 1, none⟩,
    ⟨(some 65), .extract (.t 59) 2, none⟩,
    ⟨(some 10), .alloc zDesc, none⟩,
    ⟨none, .store 16 (.t 10) (.t 63), none⟩,
    ⟨(some 11), .mv (.t 64), none⟩,
    ⟨(some 12), .mv (.t 65), none⟩] none)
  (.seq (.region [⟨(some 67), .mv (.t 6), none⟩,
    ⟨(some 68), .call 17 [(.t 67)], none⟩,
    ⟨(some 66), .mv (.t 68), none⟩,
    ⟨(some 69), .extract (.t 66) 0, none⟩,
    ⟨(some 70), .extract (.t 66) 1, none⟩,
    ⟨(some 13), .mv (.t 69), none⟩,
    ⟨(some 14), .mv (.t 70), none⟩] none)
  (.seq (.region [⟨(some 72), .mv (.t 0), none⟩,
    ⟨(some 73), .call 18 [(.t 72)], none⟩,
    ⟨(some 71), .mv (.t 73), none⟩,
    ⟨(some 74), .extract (.t 71) 0, none⟩,
    ⟨(some 75), .extract (.t 71) 1, none⟩,
    ⟨(some 15), .mv (.t 74), none⟩,
    ⟨(some 16), .mv (.t 75), none⟩] none)
  (.seq (.region [⟨(some 77), .mv (.t 6), none⟩,
    ⟨(some 78), .call 19 [(.t 77)], none⟩,
    ⟨(some 76), .mv (.t 78), none⟩,
    ⟨(some 79), .extract (.t 76) 0, none⟩,
    ⟨(some 80), .extract (.t 76) 1, none⟩,
    ⟨(some 17), .mv (.t 79), none⟩,
    ⟨(some 18), .mv (.t 80), none⟩] none)
  (.seq (.region [⟨(some 82), .mv (.t 0), none⟩,
    ⟨(some 83), .call 20 [(.t 82)], none⟩,
    ⟨(some 81), .mv (.t 83), none⟩,
    ⟨(some 84), .extract (.t 81) 0, none⟩,
    ⟨(some 85), .extract (.t 81) 1, none⟩,
    ⟨(some 19), .mv (.t 84), none⟩,
    ⟨(some 20), .mv (.t 85), none⟩] none)
  (.seq (.region [⟨(some 87), .mv (.t 6), none⟩,
    ⟨(some 88), .call 21 [(.t 87)], none⟩,
    ⟨(some 86), .mv (.t 88), none⟩,
    ⟨(some 89), .extract (.t 86) 0, none⟩,
    ⟨(some 90), .extract (.t 86) 1, none⟩,
    ⟨(some 21), .mv (.t 89), none⟩,
    ⟨(some 22), .mv (.t 90), none⟩] none)
  (.seq (.region [⟨(some 92), .mv (.t 0), none⟩,
    ⟨(some 93), .call 22 [(.t 92)], none⟩,
    ⟨(some 91), .mv (.t 93), none⟩,
    ⟨(some 94), .extract (.t 91) 0, none⟩,
    ⟨(some 95), .extract (.t 91) 1, none⟩,
    ⟨(some 23), .mv (.t 94), none⟩,
    ⟨(some 24), .mv (.t 95), none⟩] none)
  (.seq (.region [⟨(some 97), .mv (.t 6), none⟩,
    ⟨(some 98), .call 23 [(.t 97)], none⟩,
    ⟨(some 96), .mv (.t 98), none⟩,
    ⟨(some 99), .extract (.t 96) 0, none⟩,
    ⟨(some 100), .extract (.t 96) 1, none⟩,
    ⟨(some 25), .mv (.t 99), none⟩,
    ⟨(some 26), .mv (.t 100), none⟩] none)
  (.seq (.region [⟨(some 102), .mv (.t 0), none⟩,
    ⟨(some 103), .call 24 [(.t 102)], none⟩,
    ⟨(some 101), .mv (.t 103), none⟩,
    ⟨(some 104), .extract (.t 101) 0, none⟩,
    ⟨(some 105), .extract (.t 101) 1, none⟩,
    ⟨(some 27), .mv (.t 104), none⟩,
    ⟨(some 28), .mv (.t 105), none⟩] none)
  (.seq (.region [⟨(some 106), .mv (.t 9), none⟩,
    ⟨(some 107), .mv (.t 12), none⟩,
    ⟨(some 108), .bin (.plain .eql) (.t 106) (.t 107), none⟩,
    ⟨(some 109), .mv (.t 108), none⟩,
    ⟨(some 110), .mv (.t 8), (some (109, true))⟩,
    ⟨(some 111), .mv (.t 11), (some (109, true))⟩,
    ⟨(some 112), .bin (.eqb true) (.t 110) (.t 111), (some (109, true))⟩,
    ⟨(some 113), .pick (.t 109) (.t 112) (.c (.s (.c (.bool false)))), none⟩,
    ⟨(some 114), .mv (.t 113), none⟩,
    ⟨(some 115), .load 16 true (.t 7), (some (114, true))⟩,
    ⟨(some 116), .load 16 true (.t 10), (some (114, true))⟩,
    ⟨(some 117), .call 25 [(.t 115), (.t 116)], (some (114, true))⟩,
    ⟨(some 118), .pick (.t 114) (.t 117) (.c (.s (.c (.bool false)))), none⟩,
    ⟨(some 119), .mv (.t 118), none⟩,
    ⟨(some 120), .mv (.t 14), (some (119, true))⟩,
    ⟨(some 121), .mv (.t 16), (some (119, true))⟩,
    ⟨(some 122), .bin (.plain .eql) (.t 120) (.t 121), (some (119, true))⟩,
    ⟨(some 123), .pick (.t 119) (.t 122) (.c (.s (.c (.bool false)))), none⟩,
    ⟨(some 124), .mv (.t 123), none⟩,
    ⟨(some 125), .mv (.t 13), (some (124, true))⟩,
    ⟨(some 126), .mv (.t 15), (some (124, true))⟩,
    ⟨(some 127), .call 12 [(.t 125), (.t 126)], (some (124, true))⟩,
    ⟨(some 128), .pick (.t 124) (.t 127) (.c (.s (.c (.bool false)))), none⟩,
    ⟨(some 129), .mv (.t 128), none⟩,
    ⟨(some 130), .mv (.t 18), (some (129, true))⟩,
    ⟨(some 131), .mv (.t 20), (some (129, true))⟩,
    ⟨(some 132), .bin (.plain .eql) (.t 130) (.t 131), (some (129, true))⟩,
    ⟨(some 133), .pick (.t 129) (.t 132) (.c (.s (.c (.bool false)))), none⟩,
    ⟨(some 134), .mv (.t 133), none⟩,
    ⟨(some 135), .mv (.t 17), (some (134, true))⟩,
    ⟨(some 136), .mv (.t 19), (some (134, true))⟩,
    ⟨(some 137), .call 12 [(.t 135), (.t 136)], (some (134, true))⟩,
    ⟨(some 138), .pick (.t 134) (.t 137) (.c (.s (.c (.bool false)))), none⟩,
    ⟨(some 29), .mv (.t 138), none⟩] none)
  (.seq (.region [⟨(some 139), .mv (.t 29), none⟩,
    ⟨(some 140), .mv (.t 139), none⟩,
    ⟨(some 141), .mv (.t 22), (some (140, true))⟩,
    ⟨(some 142), .mv (.t 24), (some (140, true))⟩,
    ⟨(some 143), .bin (.plain .eql) (.t 141) (.t 142), (some (140, true))⟩,
    ⟨(some 144), .pick (.t 140) (.t 143) (.c (.s (.c (.bool false)))), none⟩,
    ⟨(some 145), .mv (.t 144), none⟩,
    ⟨(some 146), .mv (.t 21), (some (145, true))⟩,
    ⟨(some 147), .mv (.t 23), (some (145, true))⟩,
    ⟨(some 148), .bin (.eqb true) (.t 146) (.t 147), (some (145, true))⟩,
    ⟨(some 149), .pick (.t 145) (.t 148) (.c (.s (.c (.bool false)))), none⟩,
    ⟨(some 150), .mv (.t 149), none⟩,
    ⟨(some 151), .mv (.t 26), (some (150, true))⟩,
    ⟨(some 152), .mv (.t 28), (some (150, true))⟩,
    ⟨(some 153), .bin (.plain .eql) (.t 151) (.t 152), (some (150, true))⟩,
    ⟨(some 154), .pick (.t 150) (.t 153) (.c (.s (.c (.bool false)))), none⟩,
    ⟨(some 155), .mv (.t 154), none⟩,
    ⟨(some 156), .mv (.t 25), (some (155, true))⟩,
    ⟨(some 157), .mv (.t 27), (some (155, true))⟩,
    ⟨(some 158), .bin (.eqb true) (.t 156) (.t 157), (some (155, true))⟩,
    ⟨(some 159), .pick (.t 155) (.t 158) (.c (.s (.c (.bool false)))), none⟩,
    ⟨(some 160), .mv (.t 159), none⟩,
    ⟨(some 161), .mv (.t 6), (some (160, true))⟩,
    ⟨(some 162), .call 13 [(.t 161)], (some (160, true))⟩,
    ⟨(some 163), .mv (.t 0), (some (160, true))⟩,
    ⟨(some 164), .call 14 [(.t 163)], (some (160, true))⟩,
    ⟨(some 165), .bin (.plain .eql) (.t 162) (.t 164), (some (160, true))⟩,
    ⟨(some 166), .pick (.t 160) (.t 165) (.c (.s (.c (.bool false)))), none⟩,
    ⟨(some 167), .mv (.t 166), none⟩,
    ⟨(some 168), .mv (.t 5), (some (167, true))⟩,
    ⟨(some 169), .mv (.t 0), (some (167, true))⟩,
    ⟨(some 170), .call 8 [(.t 168), (.t 169)], (some (167, true))⟩,
    ⟨(some 171), .pick (.t 167) (.t 170) (.c (.s (.c (.bool false)))), none⟩,
    ⟨(some 4), .mv (.t 171), none⟩] none)
  (.ret))))))))))))))))))
  [.tmp 4]
abbrev c_bailifflaw10_TableAsks : Nat := 198

/-- bailiff/bailifflaw10.TableNames -/
def L_bailifflaw10_TableNames : Fn := Fn.mk
  (.seq (.region [⟨(some 0), .mv (.c (.s (.c (.bool false)))), none⟩] none)
  (.seq (.region [⟨(some 18), .call 26 [(.c (.s (.c (.str ⟨#[98]⟩)))), (.c (.s (.c (.int .i64 1))))], none⟩,
    ⟨(some 19), .call 26 [(.c (.s (.c (.str ⟨#[50]⟩)))), (.c (.s (.c (.int .i64 2))))], none⟩,
    ⟨(some 20), .call 27 [(.c (.s (.c (.int .i64 0))))], none⟩,
    ⟨(some 21), .call 28 [(.c (.s (.c (.flt 4613937818241073152))))], none⟩,
    ⟨(some 22), .call 29 [(.t 21)], none⟩,
    ⟨(some 23), .build zProp [(0, 2, (.t 20)), (2, 16, (.t 22))], none⟩,
    ⟨(some 24), .call 26 [(.c (.s (.c (.str ⟨#[49]⟩)))), (.c (.s (.c (.int .i64 4))))], none⟩,
    ⟨(some 25), .call 26 [(.c (.s (.c (.str ⟨#[97]⟩)))), (.c (.s (.c (.int .i64 5))))], none⟩,
    ⟨(some 26), .mkSl zProp 5 [(0, (.t 18)), (1, (.t 19)), (2, (.t 23)), (3, (.t 24)), (4, (.t 25))], none⟩,
    ⟨(some 1), .mv (.t 26), none⟩] none)
  (.seq (.region [⟨(some 28), .mv (.t 1), none⟩,
    ⟨(some 29), .call 17 [(.t 28)], none⟩,
    ⟨(some 27), .mv (.t 29), none⟩,
    ⟨(some 30), .extract (.t 27) 0, none⟩,
    ⟨(some 31), .extract (.t 27) 1, none⟩,
    ⟨(some 2), .mv (.t 30), none⟩,
    ⟨(some 3), .mv (.t 31), none⟩] none)
  (.seq (.region [⟨(some 32), .mv (.t 3), none⟩,
    ⟨(some 33), .bin (.plain .eql) (.t 32) (.c (.s (.c (.int .i64 0)))), none⟩,
    ⟨(some 34), .mv (.t 33), none⟩,
    ⟨(some 35), .mv (.t 2), (some (34, true))⟩,
    ⟨(some 36), .len false (.t 35), (some (34, true))⟩,
    ⟨(some 37), .bin (.plain .eql) (.t 36) (.c (.s (.c (.int .i64 5)))), (some (34, true))⟩,
    ⟨(some 38), .pick (.t 34) (.t 37) (.c (.s (.c (.bool false)))), none⟩,
    ⟨(some 39), .mv (.t 38), none⟩,
    ⟨(some 40), .mv (.t 2), (some (39, true))⟩,
    ⟨(some 41), .idxA 2 (.t 40) (.c (.s (.c (.int .i64 0)))), (some (39, true))⟩,
    ⟨(some 42), .load 2 true (.t 41), (some (39, true))⟩,
    ⟨(some 43), .call 30 [(.c (.s (.c (.str ⟨#[49]⟩))))], (some (39, true))⟩,
    ⟨(some 44), .bin (.eqs [.str, .int .i64]) (.t 42) (.t 43), (some (39, true))⟩,
    ⟨(some 45), .pick (.t 39) (.t 44) (.c (.s (.c (.bool false)))), none⟩,
    ⟨(some 46), .mv (.t 45), none⟩,
    ⟨(some 47), .mv (.t 2), (some (46, true))⟩,
    ⟨(some 48), .idxA 2 (.t 47) (.c (.s (.c (.int .i64 1)))), (some (46, true))⟩,
    ⟨(some 49), .load 2 true (.t 48), (some (46, true))⟩,
    ⟨(some 50), .call 30 [(.c (.s (.c (.str ⟨#[50]⟩))))], (some (46, true))⟩,
    ⟨(some 51), .bin (.eqs [.str, .int .i64]) (.t 49) (.t 50), (some (46, true))⟩,
    ⟨(some 52), .pick (.t 46) (.t 51) (.c (.s (.c (.bool false)))), none⟩,
    ⟨(some 53), .mv (.t 52), none⟩,
    ⟨(some 54), .mv (.t 2), (some (53, true))⟩,
    ⟨(some 55), .idxA 2 (.t 54) (.c (.s (.c (.int .i64 2)))), (some (53, true))⟩,
    ⟨(some 56), .load 2 true (.t 55), (some (53, true))⟩,
    ⟨(some 57), .call 30 [(.c (.s (.c (.str ⟨#[98]⟩))))], (some (53, true))⟩,
    ⟨(some 58), .bin (.eqs [.str, .int .i64]) (.t 56) (.t 57), (some (53, true))⟩,
    ⟨(some 59), .pick (.t 53) (.t 58) (.c (.s (.c (.bool false)))), none⟩,
    ⟨(some 60), .mv (.t 59), none⟩,
    ⟨(some 61), .mv (.t 2), (some (60, true))⟩,
    ⟨(some 62), .idxA 2 (.t 61) (.c (.s (.c (.int .i64 3)))), (some (60, true))⟩,
    ⟨(some 63), .load 2 true (.t 62), (some (60, true))⟩,
    ⟨(some 64), .call 30 [(.c (.s (.c (.str ⟨#[97]⟩))))], (some (60, true))⟩,
    ⟨(some 65), .bin (.eqs [.str, .int .i64]) (.t 63) (.t 64), (some (60, true))⟩,
    ⟨(some 66), .pick (.t 60) (.t 65) (.c (.s (.c (.bool false)))), none⟩,
    ⟨(some 67), .mv (.t 66), none⟩,
    ⟨(some 68), .mv (.t 2), (some (67, true))⟩,
    ⟨(some 69), .idxA 2 (.t 68) (.c (.s (.c (.int .i64 4)))), (some (67, true))⟩,
    ⟨(some 70), .load 2 true (.t 69), (some (67, true))⟩,
    ⟨(some 71), .call 27 [(.c (.s (.c (.int .i64 0))))], (some (67, true))⟩,
    ⟨(some 72), .bin (.eqs [.str, .int .i64]) (.t 70) (.t 71), (some (67, true))⟩,
    ⟨(some 73), .pick (.t 67) (.t 72) (.c (.s (.c (.bool false)))), none⟩,
    ⟨(some 4), .mv (.t 73), none⟩] (some (43, [])))
  (.seq (.region [⟨(some 75), .mv (.t 1), none⟩,
    ⟨(some 76), .call 30 [(.c (.s (.c (.str ⟨#[50]⟩))))], none⟩,
    ⟨(some 77), .call 5 [(.t 75), (.t 76)], none⟩,
    ⟨(some 74), .mv (.t 77), none⟩,
    ⟨(some 78), .extract (.t 74) 0, none⟩,
    ⟨(some 79), .extract (.t 74) 1, none⟩,
    ⟨(some 5), .mv (.t 78), none⟩,
    ⟨(some 6), .mv (.t 79), none⟩] none)
  (.seq (.region [⟨(some 81), .mv (.t 1), none⟩,
    ⟨(some 82), .call 30 [(.c (.s (.c (.str ⟨#[122]⟩))))], none⟩,
    ⟨(some 83), .call 5 [(.t 81), (.t 82)], none⟩,
    ⟨(some 80), .mv (.t 83), none⟩,
    ⟨(some 84), .extract (.t 80) 0, none⟩,
    ⟨(some 85), .extract (.t 80) 1, none⟩,
    ⟨(some 7), .mv (.t 84), none⟩,
    ⟨(some 8), .mv (.t 85), none⟩] none)
  (.seq (.region [⟨(some 86), .mv (.t 6), none⟩,
    ⟨(some 87), .bin (.plain .eql) (.t 86) (.c (.s (.c (.int .i64 0)))), none⟩,
    ⟨(some 88), .mv (.t 87), none⟩,
    ⟨(some 89), .mv (.t 5), (some (88, true))⟩,
    ⟨(some 90), .len false (.t 89), (some (88, true))⟩,
    ⟨(some 91), .bin (.plain .eql) (.t 90) (.c (.s (.c (.int .i64 4)))), (some (88, true))⟩,
    ⟨(some 92), .pick (.t 88) (.t 91) (.c (.s (.c (.bool false)))), none⟩,
    ⟨(some 93), .mv (.t 92), none⟩,
    ⟨(some 94), .mv (.t 5), (some (93, true))⟩,
    ⟨(some 95), .idxA 18 (.t 94) (.c (.s (.c (.int .i64 1)))), (some (93, true))⟩,
    ⟨(some 96), .fld 0 (.t 95), (some (93, true))⟩,
    ⟨(some 97), .load 2 true (.t 96), (some (93, true))⟩,
    ⟨(some 98), .call 27 [(.c (.s (.c (.int .i64 0))))], (some (93, true))⟩,
    ⟨(some 99), .bin (.eqs [.str, .int .i64]) (.t 97) (.t 98), (some (93, true))⟩,
    ⟨(some 100), .pick (.t 93) (.t 99) (.c (.s (.c (.bool false)))), none⟩,
    ⟨(some 101), .mv (.t 100), none⟩,
    ⟨(some 102), .mv (.t 8), (some (101, true))⟩,
    ⟨(some 103), .bin (.plain .eql) (.t 102) (.c (.s (.c (.int .i64 0)))), (some (101, true))⟩,
    ⟨(some 104), .pick (.t 101) (.t 103) (.c (.s (.c (.bool false)))), none⟩,
    ⟨(some 105), .mv (.t 104), none⟩,
    ⟨(some 106), .mv (.t 7), (some (105, true))⟩,
    ⟨(some 107), .len false (.t 106), (some (105, true))⟩,
    ⟨(some 108), .bin (.plain .eql) (.t 107) (.c (.s (.c (.int .i64 5)))), (some (105, true))⟩,
    ⟨(some 109), .pick (.t 105) (.t 108) (.c (.s (.c (.bool false)))), none⟩,
    ⟨(some 9), .mv (.t 109), none⟩] (some (25, [])))
  (.seq (.region [⟨(some 110), .call 26 [(.c (.s (.c (.str ⟨#[97]⟩)))), (.c (.s (.c (.int .i64 1))))], none⟩,
    ⟨(some 111), .call 26 [(.c (.s (.c (.str ⟨#[97]⟩)))), (.c (.s (.c (.int .i64 2))))], none⟩,
    ⟨(some 112), .mkSl zProp 2 [(0, (.t 110)), (1, (.t 111))], none⟩,
    ⟨(some 113), .call 13 [(.t 112)], none⟩,
    ⟨(some 114), .bin (.plain .eql) (.t 113) (.c (.s (.c (.int .i64 100)))), none⟩,
    ⟨(some 115), .mv (.t 114), none⟩,
    ⟨(some 116), .call 30 [(.c (.s (.c (.str ⟨#[97]⟩))))], (some (115, true))⟩,
    ⟨(some 117), .build zDesc [(0, 1, (.c (.s (.c (.int .u8 1)))))], (some (115, true))⟩,
    ⟨(some 118), .build zProp [(0, 2, (.t 116)), (2, 16, (.t 117))], (some (115, true))⟩,
    ⟨(some 119), .mkSl zProp 1 [(0, (.t 118))], (some (115, true))⟩,
    ⟨(some 120), .call 13 [(.t 119)], (some (115, true))⟩,
    ⟨(some 121), .bin (.plain .eql) (.t 120) (.c (.s (.c (.int .i64 90)))), (some (115, true))⟩,
    ⟨(some 122), .pick (.t 115) (.t 121) (.c (.s (.c (.bool false)))), none⟩,
    ⟨(some 123), .mv (.t 122), none⟩,
    ⟨(some 124), .build zKey [(1, 1, (.c (.s (.c (.int .i64 (-1))))))], (some (123, true))⟩,
    ⟨(some 125), .build zProp [(0, 2, (.t 124))], (some (123, true))⟩,
    ⟨(some 126), .mkSl zProp 1 [(0, (.t 125))], (some (123, true))⟩,
    ⟨(some 127), .call 13 [(.t 126)], (some (123, true))⟩,
    ⟨(some 128), .bin (.plain .eql) (.t 127) (.c (.s (.c (.int .i64 9)))), (some (123, true))⟩,
    ⟨(some 129), .pick (.t 123) (.t 128) (.c (.s (.c (.bool false)))), none⟩,
    ⟨(some 10), .mv (.t 129), none⟩] none)
  (.seq (.region [⟨(some 131), .call 21 [(.c (.s (.full [])))], none⟩,
    ⟨(some 130), .mv (.t 131), none⟩,
    ⟨(some 132), .extract (.t 130) 0, none⟩,
    ⟨(some 133), .extract (.t 130) 1, none⟩,
    ⟨(some 11), .mv (.t 132), none⟩,
    ⟨(some 12), .mv (.t 133), none⟩] none)
  (.seq (.region [⟨(some 135), .call 23 [(.c (.s (.full [])))], none⟩,
    ⟨(some 134), .mv (.t 135), none⟩,
    ⟨(some 136), .extract (.t 134) 0, none⟩,
    ⟨(some 137), .extract (.t 134) 1, none⟩,
    ⟨(some 13), .mv (.t 136), none⟩,
    ⟨(some 14), .mv (.t 137), none⟩] none)
  (.seq (.region [⟨(some 139), .mv (.t 1), none⟩,
    ⟨(some 140), .call 21 [(.t 139)], none⟩,
    ⟨(some 138), .mv (.t 140), none⟩,
    ⟨(some 141), .extract (.t 138) 0, none⟩,
    ⟨(some 142), .extract (.t 138) 1, none⟩,
    ⟨(some 15), .mv (.t 141), none⟩,
    ⟨(some 16), .mv (.t 142), none⟩] none)
  (.seq (.region [⟨(some 143), .mv (.t 11), none⟩,
    ⟨(some 144), .mv (.t 143), none⟩,
    ⟨(some 145), .mv (.t 12), (some (144, true))⟩,
    ⟨(some 146), .bin (.plain .eql) (.t 145) (.c (.s (.c (.int .i64 0)))), (some (144, true))⟩,
    ⟨(some 147), .pick (.t 144) (.t 146) (.c (.s (.c (.bool false)))), none⟩,
    ⟨(some 148), .mv (.t 147), none⟩,
    ⟨(some 149), .mv (.t 13), (some (148, true))⟩,
    ⟨(some 150), .pick (.t 148) (.t 149) (.c (.s (.c (.bool false)))), none⟩,
    ⟨(some 151), .mv (.t 150), none⟩,
    ⟨(some 152), .mv (.t 14), (some (151, true))⟩,
    ⟨(some 153), .bin (.plain .eql) (.t 152) (.c (.s (.c (.int .i64 0)))), (some (151, true))⟩,
    ⟨(some 154), .pick (.t 151) (.t 153) (.c (.s (.c (.bool false)))), none⟩,
    ⟨(some 155), .mv (.t 154), none⟩,
    ⟨(some 156), .mv (.t 15), (some (155, true))⟩,
    ⟨(some 157), .un .not (.t 156), (some (155, true))⟩,
    ⟨(some 158), .pick (.t 155) (.t 157) (.c (.s (.c (.bool false)))), none⟩,
    ⟨(some 159), .mv (.t 158), none⟩,
    ⟨(some 160), .mv (.t 16), (some (159, true))⟩,
    ⟨(some 161), .bin (.plain .eql) (.t 160) (.c (.s (.c (.int .i64 0)))), (some (159, true))⟩,
    ⟨(some 162), .pick (.t 159) (.t 161) (.c (.s (.c (.bool false)))), none⟩,
    ⟨(some 163), .mv (.t 162), none⟩,
    ⟨(some 164), .mv (.t 1), (some (163, true))⟩,
    ⟨(some 165), .len false (.t 164), (some (163, true))⟩,
    ⟨(some 166), .bin (.plain .eql) (.t 165) (.c (.s (.c (.int .i64 5)))), (some (163, true))⟩,
    ⟨(some 167), .pick (.t 163) (.t 166) (.c (.s (.c (.bool false)))), none⟩,
    ⟨(some 17), .mv (.t 167), none⟩] none)
  (.seq (.region [⟨(some 168), .mv (.c (.s (.c (.bool true)))), none⟩,
    ⟨(some 169), .call 31 [], (some (168, true))⟩,
    ⟨(some 170), .pick (.t 168) (.t 169) (.c (.s (.c (.bool false)))), none⟩,
    ⟨(some 171), .mv (.t 170), none⟩,
    ⟨(some 172), .mv (.t 4), (some (171, true))⟩,
    ⟨(some 173), .pick (.t 171) (.t 172) (.c (.s (.c (.bool false)))), none⟩,
    ⟨(some 174), .mv (.t 173), none⟩,
    ⟨(some 175), .mv (.t 9), (some (174, true))⟩,
    ⟨(some 176), .pick (.t 174) (.t 175) (.c (.s (.c (.bool false)))), none⟩,
    ⟨(some 177), .mv (.t 176), none⟩,
    ⟨(some 178), .mv (.t 10), (some (177, true))⟩,
    ⟨(some 179), .pick (.t 177) (.t 178) (.c (.s (.c (.bool false)))), none⟩,
    ⟨(some 180), .mv (.t 179), none⟩,
    ⟨(some 181), .mv (.t 17), (some (180, true))⟩,
    ⟨(some 182), .pick (.t 180) (.t 181) (.c (.s (.c (.bool false)))), none⟩,
    ⟨(some 0), .mv (.t 182), none⟩] none)
  (.ret))))))))))))))
  [.tmp 0]
abbrev c_bailifflaw10_TableNames : Nat := 182

/-- bailiff/bailifflaw10.TableFinds -/
def L_bailifflaw10_TableFinds : Fn := Fn.mk
  (.seq (.region [⟨(some 5), .box 2 (.t 1), none⟩,
    ⟨(some 6), .box 16 (.t 2), none⟩,
    ⟨(some 7), .box 2 (.t 3), none⟩,
    ⟨(some 8), .mv (.c (.s (.c (.bool false)))), none⟩] none)
  (.seq (.region [⟨(some 36), .call 31 [], none⟩,
    ⟨(some 9), .mv (.t 36), none⟩] none)
  (.seq (.seq (.region [⟨(some 37), .mv (.t 0), none⟩,
    ⟨(some 38), .call 1 [(.t 37)], none⟩,
    ⟨(some 39), .mv (.t 38), none⟩,
    ⟨(some 40), .mv (.t 0), (some (39, false))⟩,
    ⟨(some 41), .call 13 [(.t 40)], (some (39, false))⟩,
    ⟨(some 42), .bin (.plain .neq) (.t 41) (.c (.s (.c (.int .i64 0)))), (some (39, false))⟩,
    ⟨(some 43), .pick (.t 39) (.c (.s (.c (.bool true)))) (.t 42), none⟩,
    ⟨(some 44), .mv (.t 43), none⟩,
    ⟨(some 45), .load 2 true (.t 5), (some (44, false))⟩,
    ⟨(some 46), .call 32 [(.t 45)], (some (44, false))⟩,
    ⟨(some 47), .bin (.plain .neq) (.t 46) (.c (.s (.c (.int .i64 0)))), (some (44, false))⟩,
    ⟨(some 48), .pick (.t 44) (.c (.s (.c (.bool true)))) (.t 47), none⟩,
    ⟨(some 49), .mv (.t 48), none⟩,
    ⟨(some 50), .load 2 true (.t 7), (some (49, false))⟩,
    ⟨(some 51), .call 32 [(.t 50)], (some (49, false))⟩,
    ⟨(some 52), .bin (.plain .neq) (.t 51) (.c (.s (.c (.int .i64 0)))), (some (49, false))⟩,
    ⟨(some 53), .pick (.t 49) (.c (.s (.c (.bool true)))) (.t 52), none⟩,
    ⟨(some 54), .mv (.t 53), none⟩,
    ⟨(some 55), .mv (.t 9), (some (54, false))⟩,
    ⟨(some 56), .un .not (.t 55), (some (54, false))⟩,
    ⟨(some 57), .pick (.t 54) (.c (.s (.c (.bool true)))) (.t 56), none⟩] none)
  (.cond (.t 57) (.seq (.region [⟨(some 58), .mv (.t 9), none⟩,
    ⟨(some 8), .mv (.t 58), none⟩] none)
  (.ret))
  (.skip)))
  (.seq (.region [⟨(some 60), .mv (.t 0), none⟩,
    ⟨(some 61), .load 2 true (.t 7), none⟩,
    ⟨(some 62), .call 15 [(.t 60), (.t 61)], none⟩,
    ⟨(some 59), .mv (.t 62), none⟩,
    ⟨(some 63), .extract (.t 59) 0, none⟩,
    ⟨(some 64), .extract (.t 59) 1, none⟩,
    ⟨(some 65), .extract (.t 59) 2, none⟩,
    ⟨(some 10), .alloc zDesc, none⟩,
    ⟨none, .store 16 (.t 10) (.t 63), none⟩,
    ⟨(some 11), .mv (.t 64), none⟩,
    ⟨(some 12), .mv (.t 65), none⟩] none)
  (.seq (.region [⟨(some 67), .mv (.t 0), none⟩,
    ⟨(some 68), .load 2 true (.t 5), none⟩,
    ⟨(some 69), .call 15 [(.t 67), (.t 68)], none⟩,
    ⟨(some 66), .mv (.t 69), none⟩,
    ⟨(some 70), .extract (.t 66) 0, none⟩,
    ⟨(some 71), .extract (.t 66) 1, none⟩,
    ⟨(some 72), .extract (.t 66) 2, none⟩,
    ⟨(some 13), .alloc zDesc, none⟩,
    ⟨none, .store 16 (.t 13) (.t 70), none⟩,
    ⟨(some 14), .mv (.t 71), none⟩,
    ⟨(some 15), .mv (.t 72), none⟩] none)
  (.seq (.seq (.region [⟨(some 73), .mv (.t 12), none⟩,
    ⟨(some 74), .bin (.plain .neq) (.t 73) (.c (.s (.c (.int .i64 0)))), none⟩,
    ⟨(some 75), .mv (.t 74), none⟩,
    ⟨(some 76), .mv (.t 15), (some (75, false))⟩,
    ⟨(some 77), .bin (.plain .neq) (.t 76) (.c (.s (.c (.int .i64 0)))), (some (75, false))⟩,
    ⟨(some 78), .pick (.t 75) (.c (.s (.c (.bool true)))) (.t 77), none⟩] none)
  (.cond (.t 78) (.seq (.region [⟨(some 8), .mv (.c (.s (.c (.bool false)))), none⟩] none)
  (.ret))
  (.skip)))
  (.seq (.region [⟨(some 80), .mv (.t 0), none⟩,
    ⟨(some 81), .load 2 true (.t 5), none⟩,
    ⟨(some 82), .load 16 true (.t 6), none⟩,
    ⟨(some 83), .call 3 [(.t 80), (.t 81), (.t 82)], none⟩,
    ⟨(some 79), .mv (.t 83), none⟩,
    ⟨(some 84), .extract (.t 79) 0, none⟩,
    ⟨(some 85), .extract (.t 79) 1, none⟩,
    ⟨(some 16), .mv (.t 84), none⟩,
    ⟨(some 12), .mv (.t 85), none⟩] none)
  (.seq (.seq (.region [⟨(some 86), .mv (.t 12), none⟩,
    ⟨(some 87), .bin (.plain .eql) (.t 86) (.c (.s (.c (.int .i64 0)))), none⟩] none)
  (.cond (.t 87) (.seq (.region [⟨(some 89), .mv (.t 16), none⟩,
    ⟨(some 90), .load 2 true (.t 5), none⟩,
    ⟨(some 91), .call 15 [(.t 89), (.t 90)], none⟩,
    ⟨(some 88), .mv (.t 91), none⟩,
    ⟨(some 92), .extract (.t 88) 0, none⟩,
    ⟨(some 93), .extract (.t 88) 1, none⟩,
    ⟨(some 94), .extract (.t 88) 2, none⟩,
    ⟨(some 17), .alloc zDesc, none⟩,
    ⟨none, .store 16 (.t 17) (.t 92), none⟩,
    ⟨(some 18), .mv (.t 93), none⟩,
    ⟨(some 19), .mv (.t 94), none⟩] none)
  (.seq (.region [⟨(some 96), .mv (.t 16), none⟩,
    ⟨(some 97), .load 2 true (.t 7), none⟩,
    ⟨(some 98), .call 15 [(.t 96), (.t 97)], none⟩,
    ⟨(some 95), .mv (.t 98), none⟩,
    ⟨(some 99), .extract (.t 95) 0, none⟩,
    ⟨(some 100), .extract (.t 95) 1, none⟩,
    ⟨(some 101), .extract (.t 95) 2, none⟩,
    ⟨(some 20), .alloc zDesc, none⟩,
    ⟨none, .store 16 (.t 20) (.t 99), none⟩,
    ⟨(some 21), .mv (.t 100), none⟩,
    ⟨(some 22), .mv (.t 101), none⟩] none)
  (.seq (.region [⟨(some 102), .mv (.t 0), none⟩,
    ⟨(some 103), .len false (.t 102), none⟩,
    ⟨(some 23), .mv (.t 103), none⟩] none)
  (.seq (.seq (.region [⟨(some 104), .mv (.t 14), none⟩,
    ⟨(some 105), .un .not (.t 104), none⟩] none)
  (.cond (.t 105) (.region [⟨(some 106), .mv (.t 23), none⟩,
    ⟨(some 107), .bin (.plain .add) (.t 106) (.c (.s (.c (.int .i64 1)))), none⟩,
    ⟨(some 23), .mv (.t 107), none⟩] none)
  (.skip)))
  (.seq (.seq (.region [⟨(some 108), .mv (.t 19), none⟩,
    ⟨(some 109), .bin (.plain .neq) (.t 108) (.c (.s (.c (.int .i64 0)))), none⟩,
    ⟨(some 110), .mv (.t 109), none⟩,
    ⟨(some 111), .mv (.t 18), (some (110, false))⟩,
    ⟨(some 112), .un .not (.t 111), (some (110, false))⟩,
    ⟨(some 113), .pick (.t 110) (.c (.s (.c (.bool true)))) (.t 112), none⟩,
    ⟨(some 114), .mv (.t 113), none⟩,
    ⟨(some 115), .load 16 true (.t 17), (some (114, false))⟩,
    ⟨(some 116), .load 16 true (.t 6), (some (114, false))⟩,
    ⟨(some 117), .call 33 [(.t 115), (.t 116)], (some (114, false))⟩,
    ⟨(some 118), .un .not (.t 117), (some (114, false))⟩,
    ⟨(some 119), .pick (.t 114) (.c (.s (.c (.bool true)))) (.t 118), none⟩,
    ⟨(some 120), .mv (.t 119), none⟩,
    ⟨(some 121), .mv (.t 22), (some (120, false))⟩,
    ⟨(some 122), .bin (.plain .neq) (.t 121) (.c (.s (.c (.int .i64 0)))), (some (120, false))⟩,
    ⟨(some 123), .pick (.t 120) (.c (.s (.c (.bool true)))) (.t 122), none⟩,
    ⟨(some 124), .mv (.t 123), none⟩,
    ⟨(some 125), .mv (.t 16), (some (124, false))⟩,
    ⟨(some 126), .len false (.t 125), (some (124, false))⟩,
    ⟨(some 127), .mv (.t 23), (some (124, false))⟩,
    ⟨(some 128), .bin (.plain .neq) (.t 126) (.t 127), (some (124, false))⟩,
    ⟨(some 129), .pick (.t 124) (.c (.s (.c (.bool true)))) (.t 128), none⟩,
    ⟨(some 130), .mv (.t 129), none⟩,
    ⟨(some 131), .mv (.t 16), (some (130, false))⟩,
    ⟨(some 132), .call 13 [(.t 131)], (some (130, false))⟩,
    ⟨(some 133), .bin (.plain .neq) (.t 132) (.c (.s (.c (.int .i64 0)))), (some (130, false))⟩,
    ⟨(some 134), .pick (.t 130) (.c (.s (.c (.bool true)))) (.t 133), none⟩] none)
  (.cond (.t 134) (.seq (.region [⟨(some 8), .mv (.c (.s (.c (.bool false)))), none⟩] none)
  (.ret))
  (.skip)))
  (.seq (.seq (.region [⟨(some 135), .load 2 true (.t 7), none⟩,
    ⟨(some 136), .load 2 true (.t 5), none⟩,
    ⟨(some 137), .bin (.neqs [.str, .int .i64]) (.t 135) (.t 136), none⟩,
    ⟨(some 138), .mv (.t 137), none⟩,
    ⟨(some 139), .mv (.t 21), (some (138, true))⟩,
    ⟨(some 140), .mv (.t 11), (some (138, true))⟩,
    ⟨(some 141), .bin (.eqb false) (.t 139) (.t 140), (some (138, true))⟩,
    ⟨(some 142), .mv (.t 141), (some (138, true))⟩,
    ⟨(some 143), .load 16 true (.t 20), (some (142, false))⟩,
    ⟨(some 144), .load 16 true (.t 10), (some (142, false))⟩,
    ⟨(some 145), .call 33 [(.t 143), (.t 144)], (some (142, false))⟩,
    ⟨(some 146), .un .not (.t 145), (some (142, false))⟩,
    ⟨(some 147), .pick (.t 142) (.c (.s (.c (.bool true)))) (.t 146), (some (138, true))⟩,
    ⟨(some 148), .pick (.t 138) (.t 147) (.c (.s (.c (.bool false)))), none⟩] none)
  (.cond (.t 148) (.seq (.region [⟨(some 8), .mv (.c (.s (.c (.bool false)))), none⟩] none)
  (.ret))
  (.skip)))
  (.seq (.region [⟨(some 24), .mv (.c (.s (.c (.int .i64 0)))), none⟩] none)
  (.block 0 (.loop (.seq (.seq (.region [⟨(some 149), .mv (.t 24), none⟩,
    ⟨(some 150), .mv (.t 0), none⟩,
    ⟨(some 151), .len false (.t 150), none⟩,
    ⟨(some 152), .bin (.plain .lss) (.t 149) (.t 151), none⟩] none)
  (.cond (.t 152) (.skip)
  (.exit 0)))
  (.seq (.block 1 (.seq (.region [⟨(some 155), .mv (.t 16), none⟩,
    ⟨(some 156), .mv (.t 24), none⟩,
    ⟨(some 157), .idxA 18 (.t 155) (.t 156), none⟩,
    ⟨(some 158), .fld 0 (.t 157), none⟩,
    ⟨(some 159), .load 2 true (.t 158), none⟩,
    ⟨(some 160), .mv (.t 0), none⟩,
    ⟨(some 161), .mv (.t 24), none⟩,
    ⟨(some 162), .idxA 18 (.t 160) (.t 161), none⟩,
    ⟨(some 163), .fld 0 (.t 162), none⟩,
    ⟨(some 164), .load 2 true (.t 163), none⟩,
    ⟨(some 165), .bin (.neqs [.str, .int .i64]) (.t 159) (.t 164), none⟩] (some (11, [])))
  (.cond (.t 165) (.seq (.region [⟨(some 8), .mv (.c (.s (.c (.bool false)))), none⟩] none)
  (.ret))
  (.skip))))
  (.region [⟨(some 153), .mv (.t 24), none⟩,
    ⟨(some 154), .bin (.plain .add) (.t 153) (.c (.s (.c (.int .i64 1)))), none⟩,
    ⟨(some 24), .mv (.t 154), none⟩] none))))))))))))
  (.skip)))
  (.seq (.region [⟨(some 167), .mv (.t 0), none⟩,
    ⟨(some 168), .load 2 true (.t 5), none⟩,
    ⟨(some 169), .call 5 [(.t 167), (.t 168)], none⟩,
    ⟨(some 166), .mv (.t 169), none⟩,
    ⟨(some 170), .extract (.t 166) 0, none⟩,
    ⟨(some 171), .extract (.t 166) 1, none⟩,
    ⟨(some 25), .mv (.t 170), none⟩,
    ⟨(some 12), .mv (.t 171), none⟩] none)
  (.seq (.region [⟨(some 173), .mv (.t 25), none⟩,
    ⟨(some 174), .load 2 true (.t 5), none⟩,
    ⟨(some 175), .call 15 [(.t 173), (.t 174)], none⟩,
    ⟨(some 172), .mv (.t 175), none⟩,
    ⟨(some 176), .extract (.t 172) 0, none⟩,
    ⟨(some 177), .extract (.t 172) 1, none⟩,
    ⟨(some 178), .extract (.t 172) 2, none⟩,
    ⟨(some 26), .alloc zDesc, none⟩,
    ⟨none, .store 16 (.t 26) (.t 176), none⟩,
    ⟨(some 27), .mv (.t 177), none⟩,
    ⟨(some 15), .mv (.t 178), none⟩] none)
  (.seq (.region [⟨(some 180), .mv (.t 25), none⟩,
    ⟨(some 181), .load 2 true (.t 7), none⟩,
    ⟨(some 182), .call 15 [(.t 180), (.t 181)], none⟩,
    ⟨(some 179), .mv (.t 182), none⟩,
    ⟨(some 183), .extract (.t 179) 0, none⟩,
    ⟨(some 184), .extract (.t 179) 1, none⟩,
    ⟨(some 185), .extract (.t 179) 2, none⟩,
    ⟨(some 28), .alloc zDesc, none⟩,
    ⟨none, .store 16 (.t 28) (.t 183), none⟩,
    ⟨(some 29), .mv (.t 184), none⟩,
    ⟨(some 30), .mv (.t 185), none⟩] none)
  (.seq (.seq (.region [⟨(some 186), .mv (.t 12), none⟩,
    ⟨(some 187), .bin (.plain .neq) (.t 186) (.c (.s (.c (.int .i64 0)))), none⟩,
    ⟨(some 188), .mv (.t 187), none⟩,
    ⟨(some 189), .mv (.t 15), (some (188, false))⟩,
    ⟨(some 190), .bin (.plain .neq) (.t 189) (.c (.s (.c (.int .i64 0)))), (some (188, false))⟩,
    ⟨(some 191), .pick (.t 188) (.c (.s (.c (.bool true)))) (.t 190), none⟩,
    ⟨(some 192), .mv (.t 191), none⟩,
    ⟨(some 193), .mv (.t 27), (some (192, false))⟩,
    ⟨(some 194), .pick (.t 192) (.c (.s (.c (.bool true)))) (.t 193), none⟩,
    ⟨(some 195), .mv (.t 194), none⟩,
    ⟨(some 196), .mv (.t 30), (some (195, false))⟩,
    ⟨(some 197), .bin (.plain .neq) (.t 196) (.c (.s (.c (.int .i64 0)))), (some (195, false))⟩,
    ⟨(some 198), .pick (.t 195) (.c (.s (.c (.bool true)))) (.t 197), none⟩,
    ⟨(some 199), .mv (.t 198), none⟩,
    ⟨(some 200), .load 2 true (.t 7), (some (199, false))⟩,
    ⟨(some 201), .load 2 true (.t 5), (some (199, false))⟩,
    ⟨(some 202), .bin (.neqs [.str, .int .i64]) (.t 200) (.t 201), (some (199, false))⟩,
    ⟨(some 203), .mv (.t 202), (some (199, false))⟩,
    ⟨(some 204), .mv (.t 29), (some (203, true))⟩,
    ⟨(some 205), .mv (.t 11), (some (203, true))⟩,
    ⟨(some 206), .bin (.eqb false) (.t 204) (.t 205), (some (203, true))⟩,
    ⟨(some 207), .mv (.t 206), (some (203, true))⟩,
    ⟨(some 208), .load 16 true (.t 28), (some (207, false))⟩,
    ⟨(some 209), .load 16 true (.t 10), (some (207, false))⟩,
    ⟨(some 210), .call 33 [(.t 208), (.t 209)], (some (207, false))⟩,
    ⟨(some 211), .un .not (.t 210), (some (207, false))⟩,
    ⟨(some 212), .pick (.t 207) (.c (.s (.c (.bool true)))) (.t 211), (some (203, true))⟩,
    ⟨(some 213), .pick (.t 203) (.t 212) (.c (.s (.c (.bool false)))), (some (199, false))⟩,
    ⟨(some 214), .pick (.t 199) (.c (.s (.c (.bool true)))) (.t 213), none⟩] none)
  (.cond (.t 214) (.seq (.region [⟨(some 8), .mv (.c (.s (.c (.bool false)))), none⟩] none)
  (.ret))
  (.skip)))
  (.seq (.region [⟨(some 31), .mv (.c (.s (.c (.int .i64 0)))), none⟩] none)
  (.seq (.seq (.region [⟨(some 32), .mv (.c (.s (.c (.int .i64 0)))), none⟩] none)
  (.block 2 (.loop (.seq (.seq (.region [⟨(some 215), .mv (.t 32), none⟩,
    ⟨(some 216), .mv (.t 0), none⟩,
    ⟨(some 217), .len false (.t 216), none⟩,
    ⟨(some 218), .bin (.plain .lss) (.t 215) (.t 217), none⟩] none)
  (.cond (.t 218) (.skip)
  (.exit 2)))
  (.seq (.block 3 (.seq (.seq (.region [⟨(some 221), .mv (.t 0), none⟩,
    ⟨(some 222), .mv (.t 32), none⟩,
    ⟨(some 223), .idxA 18 (.t 221) (.t 222), none⟩,
    ⟨(some 224), .fld 0 (.t 223), none⟩,
    ⟨(some 225), .load 2 true (.t 224), none⟩,
    ⟨(some 226), .load 2 true (.t 5), none⟩,
    ⟨(some 227), .bin (.eqs [.str, .int .i64]) (.t 225) (.t 226), none⟩] (some (7, [])))
  (.cond (.t 227) (.exit 3)
  (.skip)))
  (.seq (.seq (.region [⟨(some 228), .mv (.t 31), none⟩,
    ⟨(some 229), .mv (.t 25), none⟩,
    ⟨(some 230), .len false (.t 229), none⟩,
    ⟨(some 231), .bin (.plain .geq) (.t 228) (.t 230), none⟩,
    ⟨(some 232), .mv (.t 231), none⟩,
    ⟨(some 233), .mv (.t 25), (some (232, false))⟩,
    ⟨(some 234), .mv (.t 31), (some (232, false))⟩,
    ⟨(some 235), .idxA 18 (.t 233) (.t 234), (some (232, false))⟩,
    ⟨(some 236), .fld 0 (.t 235), (some (232, false))⟩,
    ⟨(some 237), .load 2 true (.t 236), (some (232, false))⟩,
    ⟨(some 238), .mv (.t 0), (some (232, false))⟩,
    ⟨(some 239), .mv (.t 32), (some (232, false))⟩,
    ⟨(some 240), .idxA 18 (.t 238) (.t 239), (some (232, false))⟩,
    ⟨(some 241), .fld 0 (.t 240), (some (232, false))⟩,
    ⟨(some 242), .load 2 true (.t 241), (some (232, false))⟩,
    ⟨(some 243), .bin (.neqs [.str, .int .i64]) (.t 237) (.t 242), (some (232, false))⟩,
    ⟨(some 244), .pick (.t 232) (.c (.s (.c (.bool true)))) (.t 243), none⟩] (some (17, [])))
  (.cond (.t 244) (.seq (.region [⟨(some 8), .mv (.c (.s (.c (.bool false)))), none⟩] none)
  (.ret))
  (.skip)))
  (.region [⟨(some 245), .mv (.t 31), none⟩,
    ⟨(some 246), .bin (.plain .add) (.t 245) (.c (.s (.c (.int .i64 1)))), none⟩,
    ⟨(some 31), .mv (.t 246), none⟩] none))))
  (.region [⟨(some 219), .mv (.t 32), none⟩,
    ⟨(some 220), .bin (.plain .add) (.t 219) (.c (.s (.c (.int .i64 1)))), none⟩,
    ⟨(some 32), .mv (.t 220), none⟩] none))))))
  (.seq (.region [⟨(some 248), .mv (.t 0), none⟩,
    ⟨(some 249), .call 17 [(.t 248)], none⟩,
    ⟨(some 247), .mv (.t 249), none⟩,
    ⟨(some 250), .extract (.t 247) 0, none⟩,
    ⟨(some 251), .extract (.t 247) 1, none⟩,
    ⟨(some 33), .mv (.t 250), none⟩,
    ⟨(some 12), .mv (.t 251), none⟩] none)
  (.seq (.region [⟨(some 253), .mv (.t 0), none⟩,
    ⟨(some 254), .call 21 [(.t 253)], none⟩,
    ⟨(some 252), .mv (.t 254), none⟩,
    ⟨(some 255), .extract (.t 252) 0, none⟩,
    ⟨(some 256), .extract (.t 252) 1, none⟩,
    ⟨(some 34), .mv (.t 255), none⟩,
    ⟨(some 15), .mv (.t 256), none⟩] none)
  (.seq (.region [⟨(some 258), .mv (.t 0), none⟩,
    ⟨(some 259), .call 23 [(.t 258)], none⟩,
    ⟨(some 257), .mv (.t 259), none⟩,
    ⟨(some 260), .extract (.t 257) 0, none⟩,
    ⟨(some 261), .extract (.t 257) 1, none⟩,
    ⟨(some 35), .mv (.t 260), none⟩,
    ⟨(some 30), .mv (.t 261), none⟩] none)
  (.seq (.region [⟨(some 262), .mv (.t 31), none⟩,
    ⟨(some 263), .mv (.t 25), none⟩,
    ⟨(some 264), .len false (.t 263), none⟩,
    ⟨(some 265), .bin (.plain .eql) (.t 262) (.t 264), none⟩,
    ⟨(some 266), .mv (.t 265), none⟩,
    ⟨(some 267), .mv (.t 12), (some (266, true))⟩,
    ⟨(some 268), .bin (.plain .eql) (.t 267) (.c (.s (.c (.int .i64 0)))), (some (266, true))⟩,
    ⟨(some 269), .pick (.t 266) (.t 268) (.c (.s (.c (.bool false)))), none⟩,
    ⟨(some 270), .mv (.t 269), none⟩,
    ⟨(some 271), .mv (.t 33), (some (270, true))⟩,
    ⟨(some 272), .len false (.t 271), (some (270, true))⟩,
    ⟨(some 273), .mv (.t 0), (some (270, true))⟩,
    ⟨(some 274), .len false (.t 273), (some (270, true))⟩,
    ⟨(some 275), .bin (.plain .eql) (.t 272) (.t 274), (some (270, true))⟩,
    ⟨(some 276), .pick (.t 270) (.t 275) (.c (.s (.c (.bool false)))), none⟩,
    ⟨(some 277), .mv (.t 276), none⟩,
    ⟨(some 278), .mv (.t 15), (some (277, true))⟩,
    ⟨(some 279), .bin (.plain .eql) (.t 278) (.c (.s (.c (.int .i64 0)))), (some (277, true))⟩,
    ⟨(some 280), .pick (.t 277) (.t 279) (.c (.s (.c (.bool false)))), none⟩,
    ⟨(some 281), .mv (.t 280), none⟩,
    ⟨(some 282), .mv (.t 30), (some (281, true))⟩,
    ⟨(some 283), .bin (.plain .eql) (.t 282) (.c (.s (.c (.int .i64 0)))), (some (281, true))⟩,
    ⟨(some 284), .pick (.t 281) (.t 283) (.c (.s (.c (.bool false)))), none⟩,
    ⟨(some 285), .mv (.t 284), none⟩,
    ⟨(some 286), .mv (.t 34), (some (285, true))⟩,
    ⟨(some 287), .mv (.t 286), (some (285, true))⟩,
    ⟨(some 288), .mv (.t 35), (some (287, false))⟩,
    ⟨(some 289), .un .not (.t 288), (some (287, false))⟩,
    ⟨(some 290), .pick (.t 287) (.c (.s (.c (.bool true)))) (.t 289), (some (285, true))⟩,
    ⟨(some 291), .pick (.t 285) (.t 290) (.c (.s (.c (.bool false)))), none⟩,
    ⟨(some 8), .mv (.t 291), none⟩] none)
  (.ret)))))))))))))))))))
  [.tmp 8]
abbrev c_bailifflaw10_TableFinds : Nat := 199

/-- bailiff/bailifflaw10.long -/
def L_bailifflaw10_long : Fn := Fn.mk
  (.seq (.region [⟨(some 2), .mv (.c (.s (.c (.bool false)))), none⟩] none)
  (.seq (.region [⟨(some 3), .mv (.t 0), none⟩,
    ⟨(some 4), .len false (.t 3), none⟩,
    ⟨(some 5), .bin (.plain .gtr) (.t 4) (.c (.s (.c (.int .i64 200)))), none⟩,
    ⟨(some 6), .mv (.t 5), none⟩,
    ⟨(some 7), .mv (.t 0), (some (6, true))⟩,
    ⟨(some 8), .len false (.t 7), (some (6, true))⟩,
    ⟨(some 9), .bin (.plain .lss) (.t 8) (.c (.s (.c (.int .i64 1020)))), (some (6, true))⟩,
    ⟨(some 10), .pick (.t 6) (.t 9) (.c (.s (.c (.bool false)))), none⟩,
    ⟨(some 11), .mv (.t 10), none⟩,
    ⟨(some 12), .mv (.t 0), (some (11, false))⟩,
    ⟨(some 13), .len false (.t 12), (some (11, false))⟩,
    ⟨(some 14), .bin (.plain .gtr) (.t 13) (.c (.s (.c (.int .i64 1100)))), (some (11, false))⟩,
    ⟨(some 15), .pick (.t 11) (.c (.s (.c (.bool true)))) (.t 14), none⟩,
    ⟨(some 2), .mv (.t 15), none⟩] none)
  (.ret)))
  [.tmp 2]
abbrev c_bailifflaw10_long : Nat := 1

/-- bailiff/bailifflaw10.twin -/
def L_bailifflaw10_twin : Fn := Fn.mk
  (.seq (.region [⟨(some 2), .mv (.c (.s (.full []))), none⟩] none)
  (.seq (.region [⟨(some 3), .mv (.c (.s (.full []))), none⟩] none)
  (.seq (.region [⟨(some 4), .mv (.t 3), none⟩,
    ⟨(some 5), .mv (.t 0), none⟩,
    ⟨(some 6), .append 160 zProp (.t 4) (.t 5), none⟩,
    ⟨(some 3), .mv (.t 6), none⟩] none)
  (.seq (.region [⟨(some 7), .mv (.t 3), none⟩,
    ⟨(some 8), .build zKey [(0, 1, (.c (.s (.c (.str ⟨#[55, 55]⟩)))))], none⟩,
    ⟨(some 9), .build zProp [(0, 2, (.t 8))], none⟩,
    ⟨(some 10), .mkSl zProp 1 [(0, (.t 9))], none⟩,
    ⟨(some 11), .append 160 zProp (.t 7) (.t 10), none⟩,
    ⟨(some 3), .mv (.t 11), none⟩] none)
  (.seq (.region [⟨(some 12), .mv (.t 3), none⟩,
    ⟨(some 2), .mv (.t 12), none⟩] none)
  (.ret))))))
  [.tmp 2]
abbrev c_bailifflaw10_twin : Nat := 2

/-- bailiff/table.Put -/
def L_table_Put : Fn := Fn.mk
  (.seq (.region [⟨(some 4), .box 2 (.t 1), none⟩,
    ⟨(some 5), .box 16 (.t 2), none⟩,
    ⟨(some 6), .mv (.c (.s (.full []))), none⟩,
    ⟨(some 7), .mv (.c (.s (.c (.int .i64 0)))), none⟩] none)
  (.seq (.seq (.region [⟨(some 11), .mv (.t 0), none⟩,
    ⟨(some 12), .load 2 true (.t 4), none⟩,
    ⟨(some 13), .call 34 [(.t 11), (.t 12)], none⟩,
    ⟨(some 8), .mv (.t 13), none⟩] none)
  (.seq (.region [⟨(some 14), .mv (.t 8), none⟩,
    ⟨(some 15), .bin (.plain .neq) (.t 14) (.c (.s (.c (.int .i64 0)))), none⟩] none)
  (.cond (.t 15) (.seq (.region [⟨(some 16), .mv (.t 8), none⟩,
    ⟨(some 6), .mv (.c (.s (.full []))), none⟩,
    ⟨(some 7), .mv (.t 16), none⟩] none)
  (.ret))
  (.skip))))
  (.seq (.region [⟨(some 17), .mv (.t 0), none⟩,
    ⟨(some 18), .load 2 true (.t 4), none⟩,
    ⟨(some 19), .call 35 [(.t 17), (.t 18)], none⟩,
    ⟨(some 9), .mv (.t 19), none⟩] none)
  (.seq (.block 0 (.seq (.region [⟨(some 21), .load 16 true (.t 5), none⟩,
    ⟨(some 22), .call 36 [(.t 21)], none⟩,
    ⟨(some 23), .un .not (.t 22), none⟩,
    ⟨(some 20), .mv (.t 23), none⟩] none)
  (.cond (.t 20) (.seq (.region [⟨(some 6), .mv (.c (.s (.full []))), none⟩,
    ⟨(some 7), .mv (.c (.s (.c (.int .i64 90)))), none⟩] none)
  (.ret))
  (.seq (.region [⟨(some 25), .mv (.t 9), none⟩,
    ⟨(some 26), .bin (.plain .lss) (.t 25) (.c (.s (.c (.int .i64 0)))), none⟩,
    ⟨(some 27), .mv (.t 26), none⟩,
    ⟨(some 28), .mv (.t 0), (some (27, true))⟩,
    ⟨(some 29), .len false (.t 28), (some (27, true))⟩,
    ⟨(some 30), .bin (.plain .eql) (.t 29) (.c (.s (.c (.int .i64 1024)))), (some (27, true))⟩,
    ⟨(some 31), .pick (.t 27) (.t 30) (.c (.s (.c (.bool false)))), none⟩,
    ⟨(some 24), .mv (.t 31), none⟩] none)
  (.cond (.t 24) (.seq (.region [⟨(some 6), .mv (.c (.s (.full []))), none⟩,
    ⟨(some 7), .mv (.c (.s (.c (.int .i64 100)))), none⟩] none)
  (.ret))
  (.seq (.region [⟨(some 33), .mv (.t 9), none⟩,
    ⟨(some 34), .bin (.plain .lss) (.t 33) (.c (.s (.c (.int .i64 0)))), none⟩,
    ⟨(some 32), .mv (.t 34), none⟩] none)
  (.cond (.t 32) (.seq (.region [⟨(some 35), .mv (.t 0), none⟩,
    ⟨(some 36), .mv (.t 0), none⟩,
    ⟨(some 37), .len false (.t 36), none⟩,
    ⟨(some 38), .mv (.t 0), none⟩,
    ⟨(some 39), .len false (.t 38), none⟩,
    ⟨(some 40), .slice 18 (.t 35) none (some (.t 37)) (some (.t 39)), none⟩,
    ⟨(some 41), .load 2 true (.t 4), none⟩,
    ⟨(some 42), .load 16 true (.t 5), none⟩,
    ⟨(some 43), .build zProp [(0, 2, (.t 41)), (2, 16, (.t 42))], none⟩,
    ⟨(some 44), .mkSl zProp 1 [(0, (.t 43))], none⟩,
    ⟨(some 45), .append 160 zProp (.t 40) (.t 44), none⟩,
    ⟨(some 6), .mv (.t 45), none⟩,
    ⟨(some 7), .mv (.c (.s (.c (.int .i64 0)))), none⟩] (some (10, [])))
  (.ret))
  (.skip))))))))
  (.seq (.region [⟨(some 46), .mv (.t 0), none⟩,
    ⟨(some 47), .slice 18 (.t 46) none (some (.c (.s (.c (.int .i64 0))))) (some (.c (.s (.c (.int .i64 0))))), none⟩,
    ⟨(some 48), .mv (.t 0), none⟩,
    ⟨(some 49), .append 160 zProp (.t 47) (.t 48), none⟩,
    ⟨(some 10), .mv (.t 49), none⟩] none)
  (.seq (.region [⟨(some 50), .mv (.t 10), none⟩,
    ⟨(some 51), .mv (.t 9), none⟩,
    ⟨(some 52), .load 16 true (.t 5), none⟩,
    ⟨(some 53), .idxA 18 (.t 50) (.t 51), none⟩,
    ⟨(some 54), .fld 2 (.t 53), none⟩,
    ⟨none, .store 16 (.t 54) (.t 52), none⟩] none)
  (.seq (.region [⟨(some 55), .mv (.t 10), none⟩,
    ⟨(some 6), .mv (.t 55), none⟩,
    ⟨(some 7), .mv (.c (.s (.c (.int .i64 0)))), none⟩] none)
  (.ret))))))))
  [.tmp 6, .tmp 7]
abbrev c_table_Put : Nat := 3

/-- bailiff/bailiffref10.Put -/
def L_bailiffref10_Put : Fn := Fn.mk
  (.seq (.region [⟨(some 4), .box 2 (.t 1), none⟩,
    ⟨(some 5), .box 16 (.t 2), none⟩,
    ⟨(some 6), .mv (.c (.s (.full []))), none⟩,
    ⟨(some 7), .mv (.c (.s (.c (.int .i64 0)))), none⟩] none)
  (.seq (.region [⟨(some 11), .mv (.t 0), none⟩,
    ⟨(some 12), .load 2 true (.t 4), none⟩,
    ⟨(some 13), .call 37 [(.t 11), (.t 12)], none⟩,
    ⟨(some 8), .mv (.t 13), none⟩] none)
  (.seq (.seq (.region [⟨(some 14), .mv (.t 8), none⟩,
    ⟨(some 15), .bin (.plain .neq) (.t 14) (.c (.s (.c (.int .i64 0)))), none⟩] none)
  (.cond (.t 15) (.seq (.region [⟨(some 16), .mv (.t 8), none⟩,
    ⟨(some 6), .mv (.c (.s (.full []))), none⟩,
    ⟨(some 7), .mv (.t 16), none⟩] none)
  (.ret))
  (.skip)))
  (.seq (.seq (.region [⟨(some 17), .load 16 true (.t 5), none⟩,
    ⟨(some 18), .call 38 [(.t 17)], none⟩,
    ⟨(some 19), .un .not (.t 18), none⟩] none)
  (.cond (.t 19) (.seq (.region [⟨(some 6), .mv (.c (.s (.full []))), none⟩,
    ⟨(some 7), .mv (.c (.s (.c (.int .i64 90)))), none⟩] none)
  (.ret))
  (.skip)))
  (.seq (.region [⟨(some 20), .mv (.t 0), none⟩,
    ⟨(some 21), .load 2 true (.t 4), none⟩,
    ⟨(some 22), .call 39 [(.t 20), (.t 21)], none⟩,
    ⟨(some 9), .mv (.t 22), none⟩] none)
  (.seq (.seq (.region [⟨(some 23), .mv (.t 9), none⟩,
    ⟨(some 24), .bin (.plain .lss) (.t 23) (.c (.s (.c (.int .i64 0)))), none⟩,
    ⟨(some 25), .mv (.t 24), none⟩,
    ⟨(some 26), .mv (.t 0), (some (25, true))⟩,
    ⟨(some 27), .len false (.t 26), (some (25, true))⟩,
    ⟨(some 28), .bin (.plain .eql) (.t 27) (.c (.s (.c (.int .i64 1024)))), (some (25, true))⟩,
    ⟨(some 29), .pick (.t 25) (.t 28) (.c (.s (.c (.bool false)))), none⟩] none)
  (.cond (.t 29) (.seq (.region [⟨(some 6), .mv (.c (.s (.full []))), none⟩,
    ⟨(some 7), .mv (.c (.s (.c (.int .i64 100)))), none⟩] none)
  (.ret))
  (.skip)))
  (.seq (.region [⟨(some 10), .mv (.c (.s (.full []))), none⟩] none)
  (.seq (.region [⟨(some 30), .mv (.t 10), none⟩,
    ⟨(some 31), .mv (.t 0), none⟩,
    ⟨(some 32), .append 160 zProp (.t 30) (.t 31), none⟩,
    ⟨(some 10), .mv (.t 32), none⟩] none)
  (.seq (.seq (.region [⟨(some 33), .mv (.t 9), none⟩,
    ⟨(some 34), .bin (.plain .lss) (.t 33) (.c (.s (.c (.int .i64 0)))), none⟩] none)
  (.cond (.t 34) (.region [⟨(some 35), .mv (.t 10), none⟩,
    ⟨(some 36), .load 2 true (.t 4), none⟩,
    ⟨(some 37), .load 16 true (.t 5), none⟩,
    ⟨(some 38), .build zProp [(0, 2, (.t 36)), (2, 16, (.t 37))], none⟩,
    ⟨(some 39), .mkSl zProp 1 [(0, (.t 38))], none⟩,
    ⟨(some 40), .append 160 zProp (.t 35) (.t 39), none⟩,
    ⟨(some 10), .mv (.t 40), none⟩] none)
  (.region [⟨(some 41), .mv (.t 10), none⟩,
    ⟨(some 42), .mv (.t 9), none⟩,
    ⟨(some 43), .load 16 true (.t 5), none⟩,
    ⟨(some 44), .idxA 18 (.t 41) (.t 42), none⟩,
    ⟨(some 45), .fld 2 (.t 44), none⟩,
    ⟨none, .store 16 (.t 45) (.t 43), none⟩] none)))
  (.seq (.region [⟨(some 46), .mv (.t 10), none⟩,
    ⟨(some 6), .mv (.t 46), none⟩,
    ⟨(some 7), .mv (.c (.s (.c (.int .i64 0)))), none⟩] none)
  (.ret)))))))))))
  [.tmp 6, .tmp 7]
abbrev c_bailiffref10_Put : Nat := 4

/-- bailiff/table.Drop -/
def L_table_Drop : Fn := Fn.mk
  (.seq (.region [⟨(some 3), .box 2 (.t 1), none⟩,
    ⟨(some 4), .mv (.c (.s (.full []))), none⟩,
    ⟨(some 5), .mv (.c (.s (.c (.int .i64 0)))), none⟩] none)
  (.seq (.seq (.region [⟨(some 9), .mv (.t 0), none⟩,
    ⟨(some 10), .load 2 true (.t 3), none⟩,
    ⟨(some 11), .call 34 [(.t 9), (.t 10)], none⟩,
    ⟨(some 6), .mv (.t 11), none⟩] none)
  (.seq (.region [⟨(some 12), .mv (.t 6), none⟩,
    ⟨(some 13), .bin (.plain .neq) (.t 12) (.c (.s (.c (.int .i64 0)))), none⟩] none)
  (.cond (.t 13) (.seq (.region [⟨(some 14), .mv (.t 6), none⟩,
    ⟨(some 4), .mv (.c (.s (.full []))), none⟩,
    ⟨(some 5), .mv (.t 14), none⟩] none)
  (.ret))
  (.skip))))
  (.seq (.region [⟨(some 15), .mv (.t 0), none⟩,
    ⟨(some 16), .load 2 true (.t 3), none⟩,
    ⟨(some 17), .call 35 [(.t 15), (.t 16)], none⟩,
    ⟨(some 7), .mv (.t 17), none⟩] none)
  (.seq (.seq (.region [⟨(some 18), .mv (.t 7), none⟩,
    ⟨(some 19), .bin (.plain .lss) (.t 18) (.c (.s (.c (.int .i64 0)))), none⟩] none)
  (.cond (.t 19) (.seq (.region [⟨(some 20), .mv (.t 0), none⟩,
    ⟨(some 21), .slice 18 (.t 20) none (some (.c (.s (.c (.int .i64 0))))) (some (.c (.s (.c (.int .i64 0))))), none⟩,
    ⟨(some 22), .mv (.t 0), none⟩,
    ⟨(some 23), .append 160 zProp (.t 21) (.t 22), none⟩,
    ⟨(some 4), .mv (.t 23), none⟩,
    ⟨(some 5), .mv (.c (.s (.c (.int .i64 0)))), none⟩] none)
  (.ret))
  (.skip)))
  (.seq (.region [⟨(some 24), .mv (.t 0), none⟩,
    ⟨(some 25), .slice 18 (.t 24) none (some (.c (.s (.c (.int .i64 0))))) (some (.c (.s (.c (.int .i64 0))))), none⟩,
    ⟨(some 26), .mv (.t 0), none⟩,
    ⟨(some 27), .mv (.t 7), none⟩,
    ⟨(some 28), .slice 18 (.t 26) none (some (.t 27)) none, none⟩,
    ⟨(some 29), .append 160 zProp (.t 25) (.t 28), none⟩,
    ⟨(some 8), .mv (.t 29), none⟩] (some (5, [])))
  (.seq (.region [⟨(some 30), .mv (.t 8), none⟩,
    ⟨(some 31), .mv (.t 0), none⟩,
    ⟨(some 32), .mv (.t 7), none⟩,
    ⟨(some 33), .bin (.plain .add) (.t 32) (.c (.s (.c (.int .i64 1)))), none⟩,
    ⟨(some 34), .slice 18 (.t 31) (some (.t 33)) none none, none⟩,
    ⟨(some 35), .append 160 zProp (.t 30) (.t 34), none⟩,
    ⟨(some 4), .mv (.t 35), none⟩,
    ⟨(some 5), .mv (.c (.s (.c (.int .i64 0)))), none⟩] none)
  (.ret)))))))
  [.tmp 4, .tmp 5]
abbrev c_table_Drop : Nat := 5

/-- bailiff/bailiffref10.Drop -/
def L_bailiffref10_Drop : Fn := Fn.mk
  (.seq (.region [⟨(some 3), .box 2 (.t 1), none⟩,
    ⟨(some 4), .mv (.c (.s (.full []))), none⟩,
    ⟨(some 5), .mv (.c (.s (.c (.int .i64 0)))), none⟩] none)
  (.seq (.region [⟨(some 9), .mv (.t 0), none⟩,
    ⟨(some 10), .load 2 true (.t 3), none⟩,
    ⟨(some 11), .call 37 [(.t 9), (.t 10)], none⟩,
    ⟨(some 6), .mv (.t 11), none⟩] none)
  (.seq (.seq (.region [⟨(some 12), .mv (.t 6), none⟩,
    ⟨(some 13), .bin (.plain .neq) (.t 12) (.c (.s (.c (.int .i64 0)))), none⟩] none)
  (.cond (.t 13) (.seq (.region [⟨(some 14), .mv (.t 6), none⟩,
    ⟨(some 4), .mv (.c (.s (.full []))), none⟩,
    ⟨(some 5), .mv (.t 14), none⟩] none)
  (.ret))
  (.skip)))
  (.seq (.region [⟨(some 7), .mv (.c (.s (.full []))), none⟩] none)
  (.seq (.seq (.region [⟨(some 8), .mv (.c (.s (.c (.int .i64 0)))), none⟩] none)
  (.block 0 (.loop (.seq (.seq (.region [⟨(some 15), .mv (.t 8), none⟩,
    ⟨(some 16), .mv (.t 0), none⟩,
    ⟨(some 17), .len false (.t 16), none⟩,
    ⟨(some 18), .bin (.plain .lss) (.t 15) (.t 17), none⟩] none)
  (.cond (.t 18) (.skip)
  (.exit 0)))
  (.seq (.block 1 (.seq (.region [⟨(some 21), .mv (.t 0), none⟩,
    ⟨(some 22), .mv (.t 8), none⟩,
    ⟨(some 23), .idxA 18 (.t 21) (.t 22), none⟩,
    ⟨(some 24), .fld 0 (.t 23), none⟩,
    ⟨(some 25), .load 2 true (.t 24), none⟩,
    ⟨(some 26), .load 2 true (.t 3), none⟩,
    ⟨(some 27), .bin (.neqs [.str, .int .i64]) (.t 25) (.t 26), none⟩] (some (7, [])))
  (.cond (.t 27) (.region [⟨(some 28), .mv (.t 7), none⟩,
    ⟨(some 29), .mv (.t 0), none⟩,
    ⟨(some 30), .mv (.t 8), none⟩,
    ⟨(some 31), .idxA 18 (.t 29) (.t 30), none⟩,
    ⟨(some 32), .load 18 true (.t 31), none⟩,
    ⟨(some 33), .mkSl zProp 1 [(0, (.t 32))], none⟩,
    ⟨(some 34), .append 160 zProp (.t 28) (.t 33), none⟩,
    ⟨(some 7), .mv (.t 34), none⟩] none)
  (.skip))))
  (.region [⟨(some 19), .mv (.t 8), none⟩,
    ⟨(some 20), .bin (.plain .add) (.t 19) (.c (.s (.c (.int .i64 1)))), none⟩,
    ⟨(some 8), .mv (.t 20), none⟩] none))))))
  (.seq (.region [⟨(some 35), .mv (.t 7), none⟩,
    ⟨(some 4), .mv (.t 35), none⟩,
    ⟨(some 5), .mv (.c (.s (.c (.int .i64 0)))), none⟩] none)
  (.ret)))))))
  [.tmp 4, .tmp 5]
abbrev c_bailiffref10_Drop : Nat := 6

/-- bailiff/bailiffref10.Same -/
def L_bailiffref10_Same : Fn := Fn.mk
  (.seq (.region [⟨(some 4), .mv (.c (.s (.c (.bool false)))), none⟩] none)
  (.seq (.seq (.region [⟨(some 6), .mv (.t 0), none⟩,
    ⟨(some 7), .len false (.t 6), none⟩,
    ⟨(some 8), .mv (.t 1), none⟩,
    ⟨(some 9), .len false (.t 8), none⟩,
    ⟨(some 10), .bin (.plain .neq) (.t 7) (.t 9), none⟩] none)
  (.cond (.t 10) (.seq (.region [⟨(some 4), .mv (.c (.s (.c (.bool false)))), none⟩] none)
  (.ret))
  (.skip)))
  (.seq (.seq (.region [⟨(some 5), .mv (.c (.s (.c (.int .i64 0)))), none⟩] none)
  (.block 0 (.loop (.seq (.seq (.region [⟨(some 11), .mv (.t 5), none⟩,
    ⟨(some 12), .mv (.t 0), none⟩,
    ⟨(some 13), .len false (.t 12), none⟩,
    ⟨(some 14), .bin (.plain .lss) (.t 11) (.t 13), none⟩] none)
  (.cond (.t 14) (.skip)
  (.exit 0)))
  (.seq (.block 1 (.seq (.region [⟨(some 17), .mv (.t 0), none⟩,
    ⟨(some 18), .mv (.t 5), none⟩,
    ⟨(some 19), .idxA 18 (.t 17) (.t 18), none⟩,
    ⟨(some 20), .fld 0 (.t 19), none⟩,
    ⟨(some 21), .load 2 true (.t 20), none⟩,
    ⟨(some 22), .mv (.t 1), none⟩,
    ⟨(some 23), .mv (.t 5), none⟩,
    ⟨(some 24), .idxA 18 (.t 22) (.t 23), none⟩,
    ⟨(some 25), .fld 0 (.t 24), none⟩,
    ⟨(some 26), .load 2 true (.t 25), none⟩,
    ⟨(some 27), .bin (.neqs [.str, .int .i64]) (.t 21) (.t 26), none⟩,
    ⟨(some 28), .mv (.t 27), none⟩,
    ⟨(some 29), .mv (.t 0), (some (28, false))⟩,
    ⟨(some 30), .mv (.t 5), (some (28, false))⟩,
    ⟨(some 31), .idxA 18 (.t 29) (.t 30), (some (28, false))⟩,
    ⟨(some 32), .fld 2 (.t 31), (some (28, false))⟩,
    ⟨(some 33), .load 16 true (.t 32), (some (28, false))⟩,
    ⟨(some 34), .mv (.t 1), (some (28, false))⟩,
    ⟨(some 35), .mv (.t 5), (some (28, false))⟩,
    ⟨(some 36), .idxA 18 (.t 34) (.t 35), (some (28, false))⟩,
    ⟨(some 37), .fld 2 (.t 36), (some (28, false))⟩,
    ⟨(some 38), .load 16 true (.t 37), (some (28, false))⟩,
    ⟨(some 39), .call 25 [(.t 33), (.t 38)], (some (28, false))⟩,
    ⟨(some 40), .un .not (.t 39), (some (28, false))⟩,
    ⟨(some 41), .pick (.t 28) (.c (.s (.c (.bool true)))) (.t 40), none⟩] (some (25, [])))
  (.cond (.t 41) (.seq (.region [⟨(some 4), .mv (.c (.s (.c (.bool false)))), none⟩] none)
  (.ret))
  (.skip))))
  (.region [⟨(some 15), .mv (.t 5), none⟩,
    ⟨(some 16), .bin (.plain .add) (.t 15) (.c (.s (.c (.int .i64 1)))), none⟩,
    ⟨(some 5), .mv (.t 16), none⟩] none))))))
  (.seq (.region [⟨(some 4), .mv (.c (.s (.c (.bool true)))), none⟩] none)
  (.ret)))))
  [.tmp 4]
abbrev c_bailiffref10_Same : Nat := 7

/-- bailiff/bailifflaw10.stays -/
def L_bailifflaw10_stays : Fn := Fn.mk
  (.seq (.region [⟨(some 4), .mv (.c (.s (.c (.bool false)))), none⟩] none)
  (.seq (.region [⟨(some 5), .mv (.t 0), none⟩,
    ⟨(some 6), .mv (.t 1), none⟩,
    ⟨(some 7), .len false (.t 6), none⟩,
    ⟨(some 8), .slice 18 (.t 5) none (some (.t 7)) none, none⟩,
    ⟨(some 9), .mv (.t 1), none⟩,
    ⟨(some 10), .call 7 [(.t 8), (.t 9)], none⟩,
    ⟨(some 11), .mv (.t 10), none⟩,
    ⟨(some 12), .mv (.t 0), (some (11, true))⟩,
    ⟨(some 13), .mv (.t 1), (some (11, true))⟩,
    ⟨(some 14), .len false (.t 13), (some (11, true))⟩,
    ⟨(some 15), .idxA 18 (.t 12) (.t 14), (some (11, true))⟩,
    ⟨(some 16), .fld 0 (.t 15), (some (11, true))⟩,
    ⟨(some 17), .load 2 true (.t 16), (some (11, true))⟩,
    ⟨(some 18), .build zKey [(0, 1, (.c (.s (.c (.str ⟨#[55, 55]⟩)))))], (some (11, true))⟩,
    ⟨(some 19), .bin (.eqs [.str, .int .i64]) (.t 17) (.t 18), (some (11, true))⟩,
    ⟨(some 20), .pick (.t 11) (.t 19) (.c (.s (.c (.bool false)))), none⟩,
    ⟨(some 21), .mv (.t 20), none⟩,
    ⟨(some 22), .mv (.t 0), (some (21, true))⟩,
    ⟨(some 23), .mv (.t 1), (some (21, true))⟩,
    ⟨(some 24), .len false (.t 23), (some (21, true))⟩,
    ⟨(some 25), .idxA 18 (.t 22) (.t 24), (some (21, true))⟩,
    ⟨(some 26), .fld 2 (.t 25), (some (21, true))⟩,
    ⟨(some 27), .load 16 true (.t 26), (some (21, true))⟩,
    ⟨(some 28), .build zDesc [], (some (21, true))⟩,
    ⟨(some 29), .bin (.eqs [.int .u8, .int .u8, .flt, .str, .int .i64, .int .u8, .flt, .str, .int .i64, .int .u8, .flt, .str, .int .i64, .bool, .bool, .bool]) (.t 27) (.t 28), (some (21, true))⟩,
    ⟨(some 30), .pick (.t 21) (.t 29) (.c (.s (.c (.bool false)))), none⟩,
    ⟨(some 4), .mv (.t 30), none⟩] none)
  (.ret)))
  [.tmp 4]
abbrev c_bailifflaw10_stays : Nat := 8

/-- bailiff/bailifflaw10.spoil -/
def L_bailifflaw10_spoil : Fn := Fn.mk
  (.seq (.region [⟨(some 2), .mv (.c (.s (.c (.int .i64 0)))), none⟩] none)
  (.block 0 (.loop (.seq (.seq (.region [⟨(some 3), .mv (.t 2), none⟩,
    ⟨(some 4), .mv (.t 0), none⟩,
    ⟨(some 5), .len false (.t 4), none⟩,
    ⟨(some 6), .bin (.plain .lss) (.t 3) (.t 5), none⟩] none)
  (.cond (.t 6) (.skip)
  (.exit 0)))
  (.seq (.block 1 (.region [⟨(some 9), .mv (.t 0), none⟩,
    ⟨(some 10), .mv (.t 2), none⟩,
    ⟨(some 11), .build zKey [(0, 1, (.c (.s (.c (.str ⟨#[120]⟩)))))], none⟩,
    ⟨(some 12), .build zProp [(0, 2, (.t 11))], none⟩,
    ⟨(some 13), .idxA 18 (.t 9) (.t 10), none⟩,
    ⟨none, .store 18 (.t 13) (.t 12), none⟩] none))
  (.region [⟨(some 7), .mv (.t 2), none⟩,
    ⟨(some 8), .bin (.plain .add) (.t 7) (.c (.s (.c (.int .i64 1)))), none⟩,
    ⟨(some 2), .mv (.t 8), none⟩] none))))))
  []
abbrev c_bailifflaw10_spoil : Nat := 9

/-- bailiff/key.Order -/
def L_key_Order (T : Nat) : Fn := Fn.mk
  (.seq (.region [⟨(some 2), .mv (.c (.s (.full []))), none⟩] none)
  (.seq (.region [⟨(some 5), .mv (.t 0), none⟩,
    ⟨(some 6), .append 24 zKey (.c (.s (.full []))) (.t 5), none⟩,
    ⟨(some 3), .alloc [.sl []], none⟩,
    ⟨none, .store 1 (.t 3) (.t 6), none⟩] none)
  (.seq (.region [⟨(some 7), .mkFn 40 [] [(.t 3)], none⟩,
    ⟨(some 4), .mv (.t 7), none⟩] none)
  (.seq (.region [⟨(some 8), .load 1 false (.t 3), none⟩,
    ⟨(some 9), .mkIf T (.t 8), none⟩,
    ⟨(some 10), .mv (.t 4), none⟩,
    ⟨(some 11), .call 183 [(.t 9), (.t 10)], none⟩] none)
  (.seq (.region [⟨(some 12), .load 1 false (.t 3), none⟩,
    ⟨(some 2), .mv (.t 12), none⟩] none)
  (.ret))))))
  [.tmp 2]
abbrev c_key_Order : Nat := 10

/-- bailiff/bailiffref08.Order -/
def L_bailiffref08_Order : Fn := Fn.mk
  (.seq (.region [⟨(some 2), .mv (.c (.s (.full []))), none⟩] none)
  (.seq (.region [⟨(some 3), .mv (.c (.s (.full []))), none⟩] none)
  (.seq (.region [⟨(some 4), .mv (.c (.s (.full []))), none⟩] none)
  (.seq (.seq (.region [⟨(some 5), .mv (.c (.s (.c (.int .i64 0)))), none⟩] none)
  (.block 0 (.loop (.seq (.seq (.region [⟨(some 14), .mv (.t 5), none⟩,
    ⟨(some 15), .mv (.t 0), none⟩,
    ⟨(some 16), .len false (.t 15), none⟩,
    ⟨(some 17), .bin (.plain .lss) (.t 14) (.t 16), none⟩] none)
  (.cond (.t 17) (.skip)
  (.exit 0)))
  (.seq (.block 1 (.seq (.region [⟨(some 21), .mv (.t 0), none⟩,
    ⟨(some 22), .mv (.t 5), none⟩,
    ⟨(some 23), .idxA 2 (.t 21) (.t 22), none⟩,
    ⟨(some 24), .load 2 true (.t 23), none⟩,
    ⟨(some 25), .call 41 [(.t 24)], none⟩,
    ⟨(some 20), .mv (.t 25), none⟩,
    ⟨(some 26), .extract (.t 20) 0, none⟩,
    ⟨(some 27), .extract (.t 20) 1, none⟩,
    ⟨(some 6), .mv (.t 26), none⟩,
    ⟨(some 7), .mv (.t 27), none⟩] none)
  (.seq (.seq (.region [⟨(some 28), .mv (.t 7), none⟩,
    ⟨(some 29), .un .not (.t 28), none⟩] none)
  (.cond (.t 29) (.exit 1)
  (.skip)))
  (.seq (.region [⟨(some 30), .mv (.t 3), none⟩,
    ⟨(some 31), .len false (.t 30), none⟩,
    ⟨(some 8), .mv (.t 31), none⟩] none)
  (.seq (.block 2 (.loop (.seq (.seq (.region [⟨(some 32), .mv (.t 8), none⟩,
    ⟨(some 33), .bin (.plain .gtr) (.t 32) (.c (.s (.c (.int .i64 0)))), none⟩,
    ⟨(some 34), .mv (.t 33), none⟩,
    ⟨(some 35), .mv (.t 4), (some (34, true))⟩,
    ⟨(some 36), .mv (.t 8), (some (34, true))⟩,
    ⟨(some 37), .bin (.plain .sub) (.t 36) (.c (.s (.c (.int .i64 1)))), (some (34, true))⟩,
    ⟨(some 38), .idxA 1 (.t 35) (.t 37), (some (34, true))⟩,
    ⟨(some 39), .load 1 false (.t 38), (some (34, true))⟩,
    ⟨(some 40), .mv (.t 6), (some (34, true))⟩,
    ⟨(some 41), .bin (.plain .gtr) (.t 39) (.t 40), (some (34, true))⟩,
    ⟨(some 42), .pick (.t 34) (.t 41) (.c (.s (.c (.bool false)))), none⟩] none)
  (.cond (.t 42) (.skip)
  (.exit 2)))
  (.block 3 (.region [⟨(some 43), .mv (.t 8), none⟩,
    ⟨(some 44), .bin (.plain .sub) (.t 43) (.c (.s (.c (.int .i64 1)))), none⟩,
    ⟨(some 8), .mv (.t 44), none⟩] none)))))
  (.seq (.region [⟨(some 45), .mv (.t 3), none⟩,
    ⟨(some 46), .build zKey [], none⟩,
    ⟨(some 47), .mkSl zKey 1 [(0, (.t 46))], none⟩,
    ⟨(some 48), .append 24 zKey (.t 45) (.t 47), none⟩,
    ⟨(some 3), .mv (.t 48), none⟩] none)
  (.seq (.region [⟨(some 49), .mv (.t 4), none⟩,
    ⟨(some 50), .mkSl [.int .i64 0] 1 [(0, (.c (.s (.c (.int .i64 0)))))], none⟩,
    ⟨(some 51), .append 8 [.int .i64 0] (.t 49) (.t 50), none⟩,
    ⟨(some 4), .mv (.t 51), none⟩] none)
  (.seq (.seq (.region [⟨(some 52), .mv (.t 3), none⟩,
    ⟨(some 53), .len false (.t 52), none⟩,
    ⟨(some 54), .bin (.plain .sub) (.t 53) (.c (.s (.c (.int .i64 1)))), none⟩,
    ⟨(some 9), .mv (.t 54), none⟩] none)
  (.block 4 (.loop (.seq (.seq (.region [⟨(some 55), .mv (.t 9), none⟩,
    ⟨(some 56), .mv (.t 8), none⟩,
    ⟨(some 57), .bin (.plain .gtr) (.t 55) (.t 56), none⟩] none)
  (.cond (.t 57) (.skip)
  (.exit 4)))
  (.seq (.block 5 (.seq (.region [⟨(some 60), .mv (.t 3), none⟩,
    ⟨(some 61), .mv (.t 9), none⟩,
    ⟨(some 62), .mv (.t 3), none⟩,
    ⟨(some 63), .mv (.t 9), none⟩,
    ⟨(some 64), .bin (.plain .sub) (.t 63) (.c (.s (.c (.int .i64 1)))), none⟩,
    ⟨(some 65), .idxA 2 (.t 62) (.t 64), none⟩,
    ⟨(some 66), .load 2 true (.t 65), none⟩,
    ⟨(some 67), .idxA 2 (.t 60) (.t 61), none⟩,
    ⟨none, .store 2 (.t 67) (.t 66), none⟩] none)
  (.region [⟨(some 68), .mv (.t 4), none⟩,
    ⟨(some 69), .mv (.t 9), none⟩,
    ⟨(some 70), .mv (.t 4), none⟩,
    ⟨(some 71), .mv (.t 9), none⟩,
    ⟨(some 72), .bin (.plain .sub) (.t 71) (.c (.s (.c (.int .i64 1)))), none⟩,
    ⟨(some 73), .idxA 1 (.t 70) (.t 72), none⟩,
    ⟨(some 74), .load 1 false (.t 73), none⟩,
    ⟨(some 75), .idxA 1 (.t 68) (.t 69), none⟩,
    ⟨none, .store 1 (.t 75) (.t 74), none⟩] none)))
  (.region [⟨(some 58), .mv (.t 9), none⟩,
    ⟨(some 59), .bin (.plain .sub) (.t 58) (.c (.s (.c (.int .i64 1)))), none⟩,
    ⟨(some 9), .mv (.t 59), none⟩] none))))))
  (.seq (.region [⟨(some 76), .mv (.t 3), none⟩,
    ⟨(some 77), .mv (.t 8), none⟩,
    ⟨(some 78), .mv (.t 0), none⟩,
    ⟨(some 79), .mv (.t 5), none⟩,
    ⟨(some 80), .idxA 2 (.t 78) (.t 79), none⟩,
    ⟨(some 81), .load 2 true (.t 80), none⟩,
    ⟨(some 82), .idxA 2 (.t 76) (.t 77), none⟩,
    ⟨none, .store 2 (.t 82) (.t 81), none⟩] none)
  (.region [⟨(some 83), .mv (.t 4), none⟩,
    ⟨(some 84), .mv (.t 8), none⟩,
    ⟨(some 85), .mv (.t 6), none⟩,
    ⟨(some 86), .idxA 1 (.t 83) (.t 84), none⟩,
    ⟨none, .store 1 (.t 86) (.t 85), none⟩] none))))))))))
  (.region [⟨(some 18), .mv (.t 5), none⟩,
    ⟨(some 19), .bin (.plain .add) (.t 18) (.c (.s (.c (.int .i64 1)))), none⟩,
    ⟨(some 5), .mv (.t 19), none⟩] none))))))
  (.seq (.seq (.region [⟨(some 10), .mv (.c (.s (.c (.int .i64 0)))), none⟩] none)
  (.block 6 (.loop (.seq (.seq (.region [⟨(some 87), .mv (.t 10), none⟩,
    ⟨(some 88), .mv (.t 0), none⟩,
    ⟨(some 89), .len false (.t 88), none⟩,
    ⟨(some 90), .bin (.plain .lss) (.t 87) (.t 89), none⟩] none)
  (.cond (.t 90) (.skip)
  (.exit 6)))
  (.seq (.block 7 (.seq (.region [⟨(some 94), .mv (.t 0), none⟩,
    ⟨(some 95), .mv (.t 10), none⟩,
    ⟨(some 96), .idxA 2 (.t 94) (.t 95), none⟩,
    ⟨(some 97), .load 2 true (.t 96), none⟩,
    ⟨(some 98), .call 41 [(.t 97)], none⟩,
    ⟨(some 93), .mv (.t 98), none⟩,
    ⟨(some 99), .extract (.t 93) 0, none⟩,
    ⟨(some 100), .extract (.t 93) 1, none⟩,
    ⟨(some 11), .mv (.t 99), none⟩,
    ⟨(some 12), .mv (.t 100), none⟩] none)
  (.seq (.region [⟨(some 101), .mv (.t 12), none⟩,
    ⟨(some 102), .un .not (.t 101), none⟩,
    ⟨(some 103), .mv (.t 102), none⟩,
    ⟨(some 104), .mv (.t 0), (some (103, true))⟩,
    ⟨(some 105), .mv (.t 10), (some (103, true))⟩,
    ⟨(some 106), .idxA 2 (.t 104) (.t 105), (some (103, true))⟩,
    ⟨(some 107), .fld 1 (.t 106), (some (103, true))⟩,
    ⟨(some 108), .load 1 false (.t 107), (some (103, true))⟩,
    ⟨(some 109), .bin (.plain .leq) (.t 108) (.c (.s (.c (.int .i64 0)))), (some (103, true))⟩,
    ⟨(some 110), .pick (.t 103) (.t 109) (.c (.s (.c (.bool false)))), none⟩] none)
  (.cond (.t 110) (.region [⟨(some 111), .mv (.t 3), none⟩,
    ⟨(some 112), .mv (.t 0), none⟩,
    ⟨(some 113), .mv (.t 10), none⟩,
    ⟨(some 114), .idxA 2 (.t 112) (.t 113), none⟩,
    ⟨(some 115), .load 2 true (.t 114), none⟩,
    ⟨(some 116), .mkSl zKey 1 [(0, (.t 115))], none⟩,
    ⟨(some 117), .append 24 zKey (.t 111) (.t 116), none⟩,
    ⟨(some 3), .mv (.t 117), none⟩] none)
  (.skip)))))
  (.region [⟨(some 91), .mv (.t 10), none⟩,
    ⟨(some 92), .bin (.plain .add) (.t 91) (.c (.s (.c (.int .i64 1)))), none⟩,
    ⟨(some 10), .mv (.t 92), none⟩] none))))))
  (.seq (.seq (.region [⟨(some 13), .mv (.c (.s (.c (.int .i64 0)))), none⟩] none)
  (.block 8 (.loop (.seq (.seq (.region [⟨(some 118), .mv (.t 13), none⟩,
    ⟨(some 119), .mv (.t 0), none⟩,
    ⟨(some 120), .len false (.t 119), none⟩,
    ⟨(some 121), .bin (.plain .lss) (.t 118) (.t 120), none⟩] none)
  (.cond (.t 121) (.skip)
  (.exit 8)))
  (.seq (.block 9 (.seq (.region [⟨(some 124), .mv (.t 0), none⟩,
    ⟨(some 125), .mv (.t 13), none⟩,
    ⟨(some 126), .idxA 2 (.t 124) (.t 125), none⟩,
    ⟨(some 127), .fld 1 (.t 126), none⟩,
    ⟨(some 128), .load 1 false (.t 127), none⟩,
    ⟨(some 129), .bin (.plain .gtr) (.t 128) (.c (.s (.c (.int .i64 0)))), none⟩] none)
  (.cond (.t 129) (.region [⟨(some 130), .mv (.t 3), none⟩,
    ⟨(some 131), .mv (.t 0), none⟩,
    ⟨(some 132), .mv (.t 13), none⟩,
    ⟨(some 133), .idxA 2 (.t 131) (.t 132), none⟩,
    ⟨(some 134), .load 2 true (.t 133), none⟩,
    ⟨(some 135), .mkSl zKey 1 [(0, (.t 134))], none⟩,
    ⟨(some 136), .append 24 zKey (.t 130) (.t 135), none⟩,
    ⟨(some 3), .mv (.t 136), none⟩] none)
  (.skip))))
  (.region [⟨(some 122), .mv (.t 13), none⟩,
    ⟨(some 123), .bin (.plain .add) (.t 122) (.c (.s (.c (.int .i64 1)))), none⟩,
    ⟨(some 13), .mv (.t 123), none⟩] none))))))
  (.seq (.region [⟨(some 137), .mv (.t 3), none⟩,
    ⟨(some 2), .mv (.t 137), none⟩] none)
  (.ret))))))))
  [.tmp 2]
abbrev c_bailiffref08_Order : Nat := 11

/-- bailiff/bailiffref08.Same -/
def L_bailiffref08_Same : Fn := Fn.mk
  (.seq (.region [⟨(some 4), .mv (.c (.s (.c (.bool false)))), none⟩] none)
  (.seq (.seq (.region [⟨(some 6), .mv (.t 0), none⟩,
    ⟨(some 7), .len false (.t 6), none⟩,
    ⟨(some 8), .mv (.t 1), none⟩,
    ⟨(some 9), .len false (.t 8), none⟩,
    ⟨(some 10), .bin (.plain .neq) (.t 7) (.t 9), none⟩] none)
  (.cond (.t 10) (.seq (.region [⟨(some 4), .mv (.c (.s (.c (.bool false)))), none⟩] none)
  (.ret))
  (.skip)))
  (.seq (.seq (.region [⟨(some 5), .mv (.c (.s (.c (.int .i64 0)))), none⟩] none)
  (.block 0 (.loop (.seq (.seq (.region [⟨(some 11), .mv (.t 5), none⟩,
    ⟨(some 12), .mv (.t 0), none⟩,
    ⟨(some 13), .len false (.t 12), none⟩,
    ⟨(some 14), .bin (.plain .lss) (.t 11) (.t 13), none⟩] none)
  (.cond (.t 14) (.skip)
  (.exit 0)))
  (.seq (.block 1 (.seq (.region [⟨(some 17), .mv (.t 0), none⟩,
    ⟨(some 18), .mv (.t 5), none⟩,
    ⟨(some 19), .idxA 2 (.t 17) (.t 18), none⟩,
    ⟨(some 20), .load 2 true (.t 19), none⟩,
    ⟨(some 21), .mv (.t 1), none⟩,
    ⟨(some 22), .mv (.t 5), none⟩,
    ⟨(some 23), .idxA 2 (.t 21) (.t 22), none⟩,
    ⟨(some 24), .load 2 true (.t 23), none⟩,
    ⟨(some 25), .bin (.neqs [.str, .int .i64]) (.t 20) (.t 24), none⟩] (some (9, [])))
  (.cond (.t 25) (.seq (.region [⟨(some 4), .mv (.c (.s (.c (.bool false)))), none⟩] none)
  (.ret))
  (.skip))))
  (.region [⟨(some 15), .mv (.t 5), none⟩,
    ⟨(some 16), .bin (.plain .add) (.t 15) (.c (.s (.c (.int .i64 1)))), none⟩,
    ⟨(some 5), .mv (.t 16), none⟩] none))))))
  (.seq (.region [⟨(some 4), .mv (.c (.s (.c (.bool true)))), none⟩] none)
  (.ret)))))
  [.tmp 4]
abbrev c_bailiffref08_Same : Nat := 12

/-- bailiff/table.Check -/
def L_table_Check : Fn := Fn.mk
  (.seq (.region [⟨(some 2), .mv (.c (.s (.c (.int .i64 0)))), none⟩] none)
  (.seq (.seq (.region [⟨(some 7), .mv (.t 0), none⟩,
    ⟨(some 8), .len false (.t 7), none⟩,
    ⟨(some 9), .bin (.plain .gtr) (.t 8) (.c (.s (.c (.int .i64 1024)))), none⟩] none)
  (.cond (.t 9) (.seq (.region [⟨(some 2), .mv (.c (.s (.c (.int .i64 4)))), none⟩] none)
  (.ret))
  (.skip)))
  (.seq (.region [⟨(some 10), .mv (.t 0), none⟩,
    ⟨(some 11), .len false (.t 10), none⟩,
    ⟨(some 12), .mkMap (some (.t 11)), none⟩,
    ⟨(some 3), .mv (.t 12), none⟩] none)
  (.seq (.seq (.region [⟨(some 13), .mv (.t 0), none⟩,
    ⟨(some 14), .len false (.t 13), none⟩,
    ⟨(some 15), .mv (.c (.s (.c (.int .i64 0)))), none⟩] none)
  (.block 0 (.loop (.seq (.region [⟨(some 16), .bin (.plain .lss) (.t 15) (.t 14), none⟩] none)
  (.seq (.cond (.t 16) (.skip)
  (.exit 0))
  (.seq (.block 1 (.seq (.region [⟨(some 17), .mv (.t 15), none⟩,
    ⟨(some 18), .idxA 18 (.t 13) (.t 15), none⟩,
    ⟨(some 19), .load 18 true (.t 18), none⟩,
    ⟨(some 5), .alloc zProp, none⟩,
    ⟨(some 4), .mv (.t 17), none⟩,
    ⟨none, .store 18 (.t 5) (.t 19), none⟩] none)
  (.seq (.seq (.region [⟨(some 20), .fld 0 (.t 5), none⟩,
    ⟨(some 21), .load 2 true (.t 20), none⟩,
    ⟨(some 22), .call 32 [(.t 21)], none⟩,
    ⟨(some 6), .mv (.t 22), none⟩] none)
  (.seq (.region [⟨(some 23), .mv (.t 6), none⟩,
    ⟨(some 24), .bin (.plain .neq) (.t 23) (.c (.s (.c (.int .i64 0)))), none⟩] none)
  (.cond (.t 24) (.seq (.region [⟨(some 25), .mv (.t 6), none⟩,
    ⟨(some 2), .mv (.t 25), none⟩] none)
  (.ret))
  (.skip))))
  (.seq (.seq (.region [⟨(some 26), .fld 2 (.t 5), none⟩,
    ⟨(some 27), .load 16 true (.t 26), none⟩,
    ⟨(some 28), .call 36 [(.t 27)], none⟩,
    ⟨(some 29), .un .not (.t 28), none⟩] none)
  (.cond (.t 29) (.seq (.region [⟨(some 2), .mv (.c (.s (.c (.int .i64 90)))), none⟩] none)
  (.ret))
  (.skip)))
  (.seq (.seq (.region [⟨(some 30), .mv (.t 3), none⟩,
    ⟨(some 31), .fld 0 (.t 5), none⟩,
    ⟨(some 32), .load 2 true (.t 31), none⟩,
    ⟨(some 33), .lookup true [.str, .int .i64] (.s (.c (.int .i64 0))) false (.t 30) (.t 32), none⟩,
    ⟨(some 34), .bin (.plain .gtr) (.t 33) (.c (.s (.c (.int .i64 0)))), none⟩] none)
  (.cond (.t 34) (.seq (.region [⟨(some 2), .mv (.c (.s (.c (.int .i64 100)))), none⟩] none)
  (.ret))
  (.skip)))
  (.region [⟨(some 35), .mv (.t 3), none⟩,
    ⟨(some 36), .fld 0 (.t 5), none⟩,
    ⟨(some 37), .load 2 true (.t 36), none⟩,
    ⟨(some 38), .mv (.t 4), none⟩,
    ⟨(some 39), .bin (.plain .add) (.t 38) (.c (.s (.c (.int .i64 1)))), none⟩,
    ⟨none, .mapUpd true [.str, .int .i64] (.t 35) (.t 37) (.t 39), none⟩] none))))))
  (.region [⟨(some 40), .bin (.plain .add) (.t 15) (.c (.s (.c (.int .i64 1)))), none⟩,
    ⟨(some 15), .mv (.t 40), none⟩] none)))))))
  (.seq (.region [⟨(some 2), .mv (.c (.s (.c (.int .i64 0)))), none⟩] none)
  (.ret))))))
  [.tmp 2]
abbrev c_table_Check : Nat := 13

/-- bailiff/bailiffref10.Check -/
def L_bailiffref10_Check : Fn := Fn.mk
  (.seq (.region [⟨(some 2), .mv (.c (.s (.c (.int .i64 0)))), none⟩] none)
  (.seq (.seq (.region [⟨(some 4), .mv (.t 0), none⟩,
    ⟨(some 5), .len false (.t 4), none⟩,
    ⟨(some 6), .bin (.plain .gtr) (.t 5) (.c (.s (.c (.int .i64 1024)))), none⟩] none)
  (.cond (.t 6) (.seq (.region [⟨(some 2), .mv (.c (.s (.c (.int .i64 4)))), none⟩] none)
  (.ret))
  (.skip)))
  (.seq (.seq (.region [⟨(some 3), .mv (.c (.s (.c (.int .i64 0)))), none⟩] none)
  (.block 0 (.loop (.seq (.seq (.region [⟨(some 7), .mv (.t 3), none⟩,
    ⟨(some 8), .mv (.t 0), none⟩,
    ⟨(some 9), .len false (.t 8), none⟩,
    ⟨(some 10), .bin (.plain .lss) (.t 7) (.t 9), none⟩] none)
  (.cond (.t 10) (.skip)
  (.exit 0)))
  (.seq (.block 1 (.seq (.seq (.region [⟨(some 13), .mv (.t 0), none⟩,
    ⟨(some 14), .mv (.t 3), none⟩,
    ⟨(some 15), .idxA 18 (.t 13) (.t 14), none⟩,
    ⟨(some 16), .fld 0 (.t 15), none⟩,
    ⟨(some 17), .load 2 true (.t 16), none⟩,
    ⟨(some 18), .call 42 [(.t 17)], none⟩,
    ⟨(some 19), .bin (.plain .neq) (.t 18) (.c (.s (.c (.int .i64 0)))), none⟩] none)
  (.cond (.t 19) (.seq (.region [⟨(some 2), .mv (.c (.s (.c (.int .i64 9)))), none⟩] none)
  (.ret))
  (.skip)))
  (.seq (.seq (.region [⟨(some 20), .mv (.t 0), none⟩,
    ⟨(some 21), .mv (.t 3), none⟩,
    ⟨(some 22), .idxA 18 (.t 20) (.t 21), none⟩,
    ⟨(some 23), .fld 2 (.t 22), none⟩,
    ⟨(some 24), .load 16 true (.t 23), none⟩,
    ⟨(some 25), .call 38 [(.t 24)], none⟩,
    ⟨(some 26), .un .not (.t 25), none⟩] none)
  (.cond (.t 26) (.seq (.region [⟨(some 2), .mv (.c (.s (.c (.int .i64 90)))), none⟩] none)
  (.ret))
  (.skip)))
  (.seq (.region [⟨(some 27), .mv (.t 0), none⟩,
    ⟨(some 28), .mv (.t 3), none⟩,
    ⟨(some 29), .slice 18 (.t 27) none (some (.t 28)) none, none⟩,
    ⟨(some 30), .mv (.t 0), none⟩,
    ⟨(some 31), .mv (.t 3), none⟩,
    ⟨(some 32), .idxA 18 (.t 30) (.t 31), none⟩,
    ⟨(some 33), .fld 0 (.t 32), none⟩,
    ⟨(some 34), .load 2 true (.t 33), none⟩,
    ⟨(some 35), .call 39 [(.t 29), (.t 34)], none⟩,
    ⟨(some 36), .bin (.plain .geq) (.t 35) (.c (.s (.c (.int .i64 0)))), none⟩] (some (10, [])))
  (.cond (.t 36) (.seq (.region [⟨(some 2), .mv (.c (.s (.c (.int .i64 100)))), none⟩] none)
  (.ret))
  (.skip))))))
  (.region [⟨(some 11), .mv (.t 3), none⟩,
    ⟨(some 12), .bin (.plain .add) (.t 11) (.c (.s (.c (.int .i64 1)))), none⟩,
    ⟨(some 3), .mv (.t 12), none⟩] none))))))
  (.seq (.region [⟨(some 2), .mv (.c (.s (.c (.int .i64 0)))), none⟩] none)
  (.ret)))))
  [.tmp 2]
abbrev c_bailiffref10_Check : Nat := 14

/-- bailiff/table.Find -/
def L_table_Find : Fn := Fn.mk
  (.seq (.region [⟨(some 3), .box 2 (.t 1), none⟩,
    ⟨(some 4), .alloc zDesc, none⟩,
    ⟨(some 5), .mv (.c (.s (.c (.bool false)))), none⟩,
    ⟨(some 6), .mv (.c (.s (.c (.int .i64 0)))), none⟩] none)
  (.seq (.seq (.region [⟨(some 9), .mv (.t 0), none⟩,
    ⟨(some 10), .load 2 true (.t 3), none⟩,
    ⟨(some 11), .call 34 [(.t 9), (.t 10)], none⟩,
    ⟨(some 7), .mv (.t 11), none⟩] none)
  (.seq (.region [⟨(some 12), .mv (.t 7), none⟩,
    ⟨(some 13), .bin (.plain .neq) (.t 12) (.c (.s (.c (.int .i64 0)))), none⟩] none)
  (.cond (.t 13) (.seq (.region [⟨(some 14), .build zDesc [], none⟩,
    ⟨(some 15), .mv (.t 7), none⟩,
    ⟨none, .store 16 (.t 4) (.t 14), none⟩,
    ⟨(some 5), .mv (.c (.s (.c (.bool false)))), none⟩,
    ⟨(some 6), .mv (.t 15), none⟩] none)
  (.ret))
  (.skip))))
  (.seq (.seq (.region [⟨(some 16), .mv (.t 0), none⟩,
    ⟨(some 17), .load 2 true (.t 3), none⟩,
    ⟨(some 18), .call 35 [(.t 16), (.t 17)], none⟩,
    ⟨(some 8), .mv (.t 18), none⟩] none)
  (.seq (.region [⟨(some 19), .mv (.t 8), none⟩,
    ⟨(some 20), .bin (.plain .geq) (.t 19) (.c (.s (.c (.int .i64 0)))), none⟩] none)
  (.cond (.t 20) (.seq (.region [⟨(some 21), .mv (.t 0), none⟩,
    ⟨(some 22), .mv (.t 8), none⟩,
    ⟨(some 23), .idxA 18 (.t 21) (.t 22), none⟩,
    ⟨(some 24), .fld 2 (.t 23), none⟩,
    ⟨(some 25), .load 16 true (.t 24), none⟩,
    ⟨none, .store 16 (.t 4) (.t 25), none⟩,
    ⟨(some 5), .mv (.c (.s (.c (.bool true)))), none⟩,
    ⟨(some 6), .mv (.c (.s (.c (.int .i64 0)))), none⟩] none)
  (.ret))
  (.skip))))
  (.seq (.region [⟨(some 26), .build zDesc [], none⟩,
    ⟨none, .store 16 (.t 4) (.t 26), none⟩,
    ⟨(some 5), .mv (.c (.s (.c (.bool false)))), none⟩,
    ⟨(some 6), .mv (.c (.s (.c (.int .i64 0)))), none⟩] none)
  (.ret)))))
  [.cell 4 16 true, .tmp 5, .tmp 6]
abbrev c_table_Find : Nat := 15

/-- bailiff/bailiffref10.Find -/
def L_bailiffref10_Find : Fn := Fn.mk
  (.seq (.region [⟨(some 3), .box 2 (.t 1), none⟩,
    ⟨(some 4), .alloc zDesc, none⟩,
    ⟨(some 5), .mv (.c (.s (.c (.bool false)))), none⟩,
    ⟨(some 6), .mv (.c (.s (.c (.int .i64 0)))), none⟩] none)
  (.seq (.region [⟨(some 9), .mv (.t 0), none⟩,
    ⟨(some 10), .load 2 true (.t 3), none⟩,
    ⟨(some 11), .call 37 [(.t 9), (.t 10)], none⟩,
    ⟨(some 7), .mv (.t 11), none⟩] none)
  (.seq (.seq (.region [⟨(some 12), .mv (.t 7), none⟩,
    ⟨(some 13), .bin (.plain .neq) (.t 12) (.c (.s (.c (.int .i64 0)))), none⟩] none)
  (.cond (.t 13) (.seq (.region [⟨(some 14), .build zDesc [], none⟩,
    ⟨(some 15), .mv (.t 7), none⟩,
    ⟨none, .store 16 (.t 4) (.t 14), none⟩,
    ⟨(some 5), .mv (.c (.s (.c (.bool false)))), none⟩,
    ⟨(some 6), .mv (.t 15), none⟩] none)
  (.ret))
  (.skip)))
  (.seq (.region [⟨(some 16), .mv (.t 0), none⟩,
    ⟨(some 17), .load 2 true (.t 3), none⟩,
    ⟨(some 18), .call 39 [(.t 16), (.t 17)], none⟩,
    ⟨(some 8), .mv (.t 18), none⟩] none)
  (.seq (.seq (.region [⟨(some 19), .mv (.t 8), none⟩,
    ⟨(some 20), .bin (.plain .lss) (.t 19) (.c (.s (.c (.int .i64 0)))), none⟩] none)
  (.cond (.t 20) (.seq (.region [⟨(some 21), .build zDesc [], none⟩,
    ⟨none, .store 16 (.t 4) (.t 21), none⟩,
    ⟨(some 5), .mv (.c (.s (.c (.bool false)))), none⟩,
    ⟨(some 6), .mv (.c (.s (.c (.int .i64 0)))), none⟩] none)
  (.ret))
  (.skip)))
  (.seq (.region [⟨(some 22), .mv (.t 0), none⟩,
    ⟨(some 23), .mv (.t 8), none⟩,
    ⟨(some 24), .idxA 18 (.t 22) (.t 23), none⟩,
    ⟨(some 25), .fld 2 (.t 24), none⟩,
    ⟨(some 26), .load 16 true (.t 25), none⟩,
    ⟨none, .store 16 (.t 4) (.t 26), none⟩,
    ⟨(some 5), .mv (.c (.s (.c (.bool true)))), none⟩,
    ⟨(some 6), .mv (.c (.s (.c (.int .i64 0)))), none⟩] none)
  (.ret)))))))
  [.cell 4 16 true, .tmp 5, .tmp 6]
abbrev c_bailiffref10_Find : Nat := 16

/-- bailiff/table.Keys -/
def L_table_Keys : Fn := Fn.mk
  (.seq (.region [⟨(some 2), .mv (.c (.s (.full []))), none⟩,
    ⟨(some 3), .mv (.c (.s (.c (.int .i64 0)))), none⟩] none)
  (.seq (.seq (.region [⟨(some 8), .mv (.t 0), none⟩,
    ⟨(some 9), .call 13 [(.t 8)], none⟩,
    ⟨(some 4), .mv (.t 9), none⟩] none)
  (.seq (.region [⟨(some 10), .mv (.t 4), none⟩,
    ⟨(some 11), .bin (.plain .neq) (.t 10) (.c (.s (.c (.int .i64 0)))), none⟩] none)
  (.cond (.t 11) (.seq (.region [⟨(some 12), .mv (.t 4), none⟩,
    ⟨(some 2), .mv (.c (.s (.full []))), none⟩,
    ⟨(some 3), .mv (.t 12), none⟩] none)
  (.ret))
  (.skip))))
  (.seq (.region [⟨(some 5), .mv (.c (.s (.full []))), none⟩] none)
  (.seq (.seq (.region [⟨(some 13), .mv (.t 0), none⟩,
    ⟨(some 14), .len false (.t 13), none⟩,
    ⟨(some 15), .mv (.c (.s (.c (.int .i64 0)))), none⟩] none)
  (.block 0 (.loop (.seq (.region [⟨(some 16), .bin (.plain .lss) (.t 15) (.t 14), none⟩] none)
  (.seq (.cond (.t 16) (.skip)
  (.exit 0))
  (.seq (.block 1 (.seq (.region [⟨(some 17), .idxA 18 (.t 13) (.t 15), none⟩,
    ⟨(some 18), .load 18 true (.t 17), none⟩,
    ⟨(some 7), .alloc zProp, none⟩,
    ⟨none, .store 18 (.t 7) (.t 18), none⟩] none)
  (.region [⟨(some 19), .mv (.t 5), none⟩,
    ⟨(some 20), .fld 0 (.t 7), none⟩,
    ⟨(some 21), .load 2 true (.t 20), none⟩,
    ⟨(some 22), .mkSl zKey 1 [(0, (.t 21))], none⟩,
    ⟨(some 23), .append 24 zKey (.t 19) (.t 22), none⟩,
    ⟨(some 5), .mv (.t 23), none⟩] none)))
  (.region [⟨(some 24), .bin (.plain .add) (.t 15) (.c (.s (.c (.int .i64 1)))), none⟩,
    ⟨(some 15), .mv (.t 24), none⟩] none)))))))
  (.seq (.region [⟨(some 25), .mv (.t 5), none⟩,
    ⟨(some 26), .call 10 [(.t 25)], none⟩,
    ⟨(some 2), .mv (.t 26), none⟩,
    ⟨(some 3), .mv (.c (.s (.c (.int .i64 0)))), none⟩] none)
  (.ret))))))
  [.tmp 2, .tmp 3]
abbrev c_table_Keys : Nat := 17

/-- bailiff/bailiffref10.Keys -/
def L_bailiffref10_Keys : Fn := Fn.mk
  (.seq (.region [⟨(some 2), .mv (.c (.s (.full []))), none⟩,
    ⟨(some 3), .mv (.c (.s (.c (.int .i64 0)))), none⟩] none)
  (.seq (.region [⟨(some 7), .mv (.t 0), none⟩,
    ⟨(some 8), .call 14 [(.t 7)], none⟩,
    ⟨(some 4), .mv (.t 8), none⟩] none)
  (.seq (.seq (.region [⟨(some 9), .mv (.t 4), none⟩,
    ⟨(some 10), .bin (.plain .neq) (.t 9) (.c (.s (.c (.int .i64 0)))), none⟩] none)
  (.cond (.t 10) (.seq (.region [⟨(some 11), .mv (.t 4), none⟩,
    ⟨(some 2), .mv (.c (.s (.full []))), none⟩,
    ⟨(some 3), .mv (.t 11), none⟩] none)
  (.ret))
  (.skip)))
  (.seq (.region [⟨(some 5), .mv (.c (.s (.full []))), none⟩] none)
  (.seq (.seq (.region [⟨(some 6), .mv (.c (.s (.c (.int .i64 0)))), none⟩] none)
  (.block 0 (.loop (.seq (.seq (.region [⟨(some 12), .mv (.t 6), none⟩,
    ⟨(some 13), .mv (.t 0), none⟩,
    ⟨(some 14), .len false (.t 13), none⟩,
    ⟨(some 15), .bin (.plain .lss) (.t 12) (.t 14), none⟩] none)
  (.cond (.t 15) (.skip)
  (.exit 0)))
  (.seq (.block 1 (.region [⟨(some 18), .mv (.t 5), none⟩,
    ⟨(some 19), .mv (.t 0), none⟩,
    ⟨(some 20), .mv (.t 6), none⟩,
    ⟨(some 21), .idxA 18 (.t 19) (.t 20), none⟩,
    ⟨(some 22), .fld 0 (.t 21), none⟩,
    ⟨(some 23), .load 2 true (.t 22), none⟩,
    ⟨(some 24), .mkSl zKey 1 [(0, (.t 23))], none⟩,
    ⟨(some 25), .append 24 zKey (.t 18) (.t 24), none⟩,
    ⟨(some 5), .mv (.t 25), none⟩] none))
  (.region [⟨(some 16), .mv (.t 6), none⟩,
    ⟨(some 17), .bin (.plain .add) (.t 16) (.c (.s (.c (.int .i64 1)))), none⟩,
    ⟨(some 6), .mv (.t 17), none⟩] none))))))
  (.seq (.region [⟨(some 26), .mv (.t 5), none⟩,
    ⟨(some 27), .call 11 [(.t 26)], none⟩,
    ⟨(some 2), .mv (.t 27), none⟩,
    ⟨(some 3), .mv (.c (.s (.c (.int .i64 0)))), none⟩] none)
  (.ret)))))))
  [.tmp 2, .tmp 3]
abbrev c_bailiffref10_Keys : Nat := 18

/-- bailiff/table.Names -/
def L_table_Names : Fn := Fn.mk
  (.seq (.region [⟨(some 2), .mv (.c (.s (.full []))), none⟩,
    ⟨(some 3), .mv (.c (.s (.c (.int .i64 0)))), none⟩] none)
  (.seq (.seq (.region [⟨(some 8), .mv (.t 0), none⟩,
    ⟨(some 9), .call 13 [(.t 8)], none⟩,
    ⟨(some 4), .mv (.t 9), none⟩] none)
  (.seq (.region [⟨(some 10), .mv (.t 4), none⟩,
    ⟨(some 11), .bin (.plain .neq) (.t 10) (.c (.s (.c (.int .i64 0)))), none⟩] none)
  (.cond (.t 11) (.seq (.region [⟨(some 12), .mv (.t 4), none⟩,
    ⟨(some 2), .mv (.c (.s (.full []))), none⟩,
    ⟨(some 3), .mv (.t 12), none⟩] none)
  (.ret))
  (.skip))))
  (.seq (.region [⟨(some 5), .mv (.c (.s (.full []))), none⟩] none)
  (.seq (.seq (.region [⟨(some 13), .mv (.t 0), none⟩,
    ⟨(some 14), .len false (.t 13), none⟩,
    ⟨(some 15), .mv (.c (.s (.c (.int .i64 0)))), none⟩] none)
  (.block 0 (.loop (.seq (.region [⟨(some 16), .bin (.plain .lss) (.t 15) (.t 14), none⟩] none)
  (.seq (.cond (.t 16) (.skip)
  (.exit 0))
  (.seq (.block 1 (.seq (.region [⟨(some 17), .idxA 18 (.t 13) (.t 15), none⟩,
    ⟨(some 18), .load 18 true (.t 17), none⟩,
    ⟨(some 7), .alloc zProp, none⟩,
    ⟨none, .store 18 (.t 7) (.t 18), none⟩] none)
  (.seq (.region [⟨(some 19), .fld 2 (.t 7), none⟩,
    ⟨(some 20), .fld 14 (.t 19), none⟩,
    ⟨(some 21), .load 1 false (.t 20), none⟩,
    ⟨(some 22), .mv (.t 21), none⟩,
    ⟨(some 23), .fld 0 (.t 7), (some (22, true))⟩,
    ⟨(some 24), .fld 1 (.t 23), (some (22, true))⟩,
    ⟨(some 25), .load 1 false (.t 24), (some (22, true))⟩,
    ⟨(some 26), .bin (.plain .eql) (.t 25) (.c (.s (.c (.int .i64 0)))), (some (22, true))⟩,
    ⟨(some 27), .pick (.t 22) (.t 26) (.c (.s (.c (.bool false)))), none⟩] none)
  (.cond (.t 27) (.region [⟨(some 28), .mv (.t 5), none⟩,
    ⟨(some 29), .fld 0 (.t 7), none⟩,
    ⟨(some 30), .load 2 true (.t 29), none⟩,
    ⟨(some 31), .mkSl zKey 1 [(0, (.t 30))], none⟩,
    ⟨(some 32), .append 24 zKey (.t 28) (.t 31), none⟩,
    ⟨(some 5), .mv (.t 32), none⟩] none)
  (.skip)))))
  (.region [⟨(some 33), .bin (.plain .add) (.t 15) (.c (.s (.c (.int .i64 1)))), none⟩,
    ⟨(some 15), .mv (.t 33), none⟩] none)))))))
  (.seq (.region [⟨(some 34), .mv (.t 5), none⟩,
    ⟨(some 35), .call 10 [(.t 34)], none⟩,
    ⟨(some 2), .mv (.t 35), none⟩,
    ⟨(some 3), .mv (.c (.s (.c (.int .i64 0)))), none⟩] none)
  (.ret))))))
  [.tmp 2, .tmp 3]
abbrev c_table_Names : Nat := 19

/-- bailiff/bailiffref10.Names -/
def L_bailiffref10_Names : Fn := Fn.mk
  (.seq (.region [⟨(some 2), .mv (.c (.s (.full []))), none⟩,
    ⟨(some 3), .mv (.c (.s (.c (.int .i64 0)))), none⟩] none)
  (.seq (.region [⟨(some 9), .mv (.t 0), none⟩,
    ⟨(some 10), .call 18 [(.t 9)], none⟩,
    ⟨(some 8), .mv (.t 10), none⟩,
    ⟨(some 11), .extract (.t 8) 0, none⟩,
    ⟨(some 12), .extract (.t 8) 1, none⟩,
    ⟨(some 4), .mv (.t 11), none⟩,
    ⟨(some 5), .mv (.t 12), none⟩] none)
  (.seq (.seq (.region [⟨(some 13), .mv (.t 5), none⟩,
    ⟨(some 14), .bin (.plain .neq) (.t 13) (.c (.s (.c (.int .i64 0)))), none⟩] none)
  (.cond (.t 14) (.seq (.region [⟨(some 15), .mv (.t 5), none⟩,
    ⟨(some 2), .mv (.c (.s (.full []))), none⟩,
    ⟨(some 3), .mv (.t 15), none⟩] none)
  (.ret))
  (.skip)))
  (.seq (.region [⟨(some 6), .mv (.c (.s (.full []))), none⟩] none)
  (.seq (.seq (.region [⟨(some 7), .mv (.c (.s (.c (.int .i64 0)))), none⟩] none)
  (.block 0 (.loop (.seq (.seq (.region [⟨(some 16), .mv (.t 7), none⟩,
    ⟨(some 17), .mv (.t 4), none⟩,
    ⟨(some 18), .len false (.t 17), none⟩,
    ⟨(some 19), .bin (.plain .lss) (.t 16) (.t 18), none⟩] none)
  (.cond (.t 19) (.skip)
  (.exit 0)))
  (.seq (.block 1 (.seq (.region [⟨(some 22), .mv (.t 4), none⟩,
    ⟨(some 23), .mv (.t 7), none⟩,
    ⟨(some 24), .idxA 2 (.t 22) (.t 23), none⟩,
    ⟨(some 25), .fld 1 (.t 24), none⟩,
    ⟨(some 26), .load 1 false (.t 25), none⟩,
    ⟨(some 27), .bin (.plain .eql) (.t 26) (.c (.s (.c (.int .i64 0)))), none⟩,
    ⟨(some 28), .mv (.t 27), none⟩,
    ⟨(some 29), .mv (.t 0), (some (28, true))⟩,
    ⟨(some 30), .mv (.t 0), (some (28, true))⟩,
    ⟨(some 31), .mv (.t 4), (some (28, true))⟩,
    ⟨(some 32), .mv (.t 7), (some (28, true))⟩,
    ⟨(some 33), .idxA 2 (.t 31) (.t 32), (some (28, true))⟩,
    ⟨(some 34), .load 2 true (.t 33), (some (28, true))⟩,
    ⟨(some 35), .call 39 [(.t 30), (.t 34)], (some (28, true))⟩,
    ⟨(some 36), .idxA 18 (.t 29) (.t 35), (some (28, true))⟩,
    ⟨(some 37), .fld 2 (.t 36), (some (28, true))⟩,
    ⟨(some 38), .fld 14 (.t 37), (some (28, true))⟩,
    ⟨(some 39), .load 1 false (.t 38), (some (28, true))⟩,
    ⟨(some 40), .pick (.t 28) (.t 39) (.c (.s (.c (.bool false)))), none⟩] none)
  (.cond (.t 40) (.region [⟨(some 41), .mv (.t 6), none⟩,
    ⟨(some 42), .mv (.t 4), none⟩,
    ⟨(some 43), .mv (.t 7), none⟩,
    ⟨(some 44), .idxA 2 (.t 42) (.t 43), none⟩,
    ⟨(some 45), .load 2 true (.t 44), none⟩,
    ⟨(some 46), .mkSl zKey 1 [(0, (.t 45))], none⟩,
    ⟨(some 47), .append 24 zKey (.t 41) (.t 46), none⟩,
    ⟨(some 6), .mv (.t 47), none⟩] none)
  (.skip))))
  (.region [⟨(some 20), .mv (.t 7), none⟩,
    ⟨(some 21), .bin (.plain .add) (.t 20) (.c (.s (.c (.int .i64 1)))), none⟩,
    ⟨(some 7), .mv (.t 21), none⟩] none))))))
  (.seq (.region [⟨(some 48), .mv (.t 6), none⟩,
    ⟨(some 2), .mv (.t 48), none⟩,
    ⟨(some 3), .mv (.c (.s (.c (.int .i64 0)))), none⟩] none)
  (.ret)))))))
  [.tmp 2, .tmp 3]
abbrev c_bailiffref10_Names : Nat := 20

/-- bailiff/table.Sealed -/
def L_table_Sealed : Fn := Fn.mk
  (.seq (.region [⟨(some 2), .mv (.c (.s (.c (.bool false)))), none⟩,
    ⟨(some 3), .mv (.c (.s (.c (.int .i64 0)))), none⟩] none)
  (.seq (.seq (.region [⟨(some 7), .mv (.t 0), none⟩,
    ⟨(some 8), .call 13 [(.t 7)], none⟩,
    ⟨(some 4), .mv (.t 8), none⟩] none)
  (.seq (.region [⟨(some 9), .mv (.t 4), none⟩,
    ⟨(some 10), .bin (.plain .neq) (.t 9) (.c (.s (.c (.int .i64 0)))), none⟩] none)
  (.cond (.t 10) (.seq (.region [⟨(some 11), .mv (.t 4), none⟩,
    ⟨(some 2), .mv (.c (.s (.c (.bool false)))), none⟩,
    ⟨(some 3), .mv (.t 11), none⟩] none)
  (.ret))
  (.skip))))
  (.seq (.seq (.region [⟨(some 12), .mv (.t 0), none⟩,
    ⟨(some 13), .len false (.t 12), none⟩,
    ⟨(some 14), .mv (.c (.s (.c (.int .i64 0)))), none⟩] none)
  (.block 0 (.loop (.seq (.region [⟨(some 15), .bin (.plain .lss) (.t 14) (.t 13), none⟩] none)
  (.seq (.cond (.t 15) (.skip)
  (.exit 0))
  (.seq (.block 1 (.seq (.region [⟨(some 16), .idxA 18 (.t 12) (.t 14), none⟩,
    ⟨(some 17), .load 18 true (.t 16), none⟩,
    ⟨(some 6), .alloc zProp, none⟩,
    ⟨none, .store 18 (.t 6) (.t 17), none⟩] none)
  (.seq (.region [⟨(some 18), .fld 2 (.t 6), none⟩,
    ⟨(some 19), .fld 15 (.t 18), none⟩,
    ⟨(some 20), .load 1 false (.t 19), none⟩] none)
  (.cond (.t 20) (.seq (.region [⟨(some 2), .mv (.c (.s (.c (.bool false)))), none⟩,
    ⟨(some 3), .mv (.c (.s (.c (.int .i64 0)))), none⟩] none)
  (.ret))
  (.skip)))))
  (.region [⟨(some 21), .bin (.plain .add) (.t 14) (.c (.s (.c (.int .i64 1)))), none⟩,
    ⟨(some 14), .mv (.t 21), none⟩] none)))))))
  (.seq (.region [⟨(some 2), .mv (.c (.s (.c (.bool true)))), none⟩,
    ⟨(some 3), .mv (.c (.s (.c (.int .i64 0)))), none⟩] none)
  (.ret)))))
  [.tmp 2, .tmp 3]
abbrev c_table_Sealed : Nat := 21

/-- bailiff/bailiffref10.Sealed -/
def L_bailiffref10_Sealed : Fn := Fn.mk
  (.seq (.region [⟨(some 2), .mv (.c (.s (.c (.bool false)))), none⟩,
    ⟨(some 3), .mv (.c (.s (.c (.int .i64 0)))), none⟩] none)
  (.seq (.region [⟨(some 6), .mv (.t 0), none⟩,
    ⟨(some 7), .call 14 [(.t 6)], none⟩,
    ⟨(some 4), .mv (.t 7), none⟩] none)
  (.seq (.seq (.region [⟨(some 8), .mv (.t 4), none⟩,
    ⟨(some 9), .bin (.plain .neq) (.t 8) (.c (.s (.c (.int .i64 0)))), none⟩] none)
  (.cond (.t 9) (.seq (.region [⟨(some 10), .mv (.t 4), none⟩,
    ⟨(some 2), .mv (.c (.s (.c (.bool false)))), none⟩,
    ⟨(some 3), .mv (.t 10), none⟩] none)
  (.ret))
  (.skip)))
  (.seq (.seq (.region [⟨(some 5), .mv (.c (.s (.c (.int .i64 0)))), none⟩] none)
  (.block 0 (.loop (.seq (.seq (.region [⟨(some 11), .mv (.t 5), none⟩,
    ⟨(some 12), .mv (.t 0), none⟩,
    ⟨(some 13), .len false (.t 12), none⟩,
    ⟨(some 14), .bin (.plain .lss) (.t 11) (.t 13), none⟩] none)
  (.cond (.t 14) (.skip)
  (.exit 0)))
  (.seq (.block 1 (.seq (.region [⟨(some 17), .mv (.t 0), none⟩,
    ⟨(some 18), .mv (.t 5), none⟩,
    ⟨(some 19), .idxA 18 (.t 17) (.t 18), none⟩,
    ⟨(some 20), .fld 2 (.t 19), none⟩,
    ⟨(some 21), .fld 15 (.t 20), none⟩,
    ⟨(some 22), .load 1 false (.t 21), none⟩] none)
  (.cond (.t 22) (.seq (.region [⟨(some 2), .mv (.c (.s (.c (.bool false)))), none⟩,
    ⟨(some 3), .mv (.c (.s (.c (.int .i64 0)))), none⟩] none)
  (.ret))
  (.skip))))
  (.region [⟨(some 15), .mv (.t 5), none⟩,
    ⟨(some 16), .bin (.plain .add) (.t 15) (.c (.s (.c (.int .i64 1)))), none⟩,
    ⟨(some 5), .mv (.t 16), none⟩] none))))))
  (.seq (.region [⟨(some 2), .mv (.c (.s (.c (.bool true)))), none⟩,
    ⟨(some 3), .mv (.c (.s (.c (.int .i64 0)))), none⟩] none)
  (.ret))))))
  [.tmp 2, .tmp 3]
abbrev c_bailiffref10_Sealed : Nat := 22

/-- bailiff/table.Frozen -/
def L_table_Frozen : Fn := Fn.mk
  (.seq (.region [⟨(some 2), .mv (.c (.s (.c (.bool false)))), none⟩,
    ⟨(some 3), .mv (.c (.s (.c (.int .i64 0)))), none⟩] none)
  (.seq (.region [⟨(some 9), .mv (.t 0), none⟩,
    ⟨(some 10), .call 21 [(.t 9)], none⟩,
    ⟨(some 8), .mv (.t 10), none⟩,
    ⟨(some 11), .extract (.t 8) 0, none⟩,
    ⟨(some 12), .extract (.t 8) 1, none⟩,
    ⟨(some 4), .mv (.t 11), none⟩,
    ⟨(some 5), .mv (.t 12), none⟩] none)
  (.seq (.seq (.region [⟨(some 13), .mv (.t 0), none⟩,
    ⟨(some 14), .len false (.t 13), none⟩,
    ⟨(some 15), .mv (.c (.s (.c (.int .i64 0)))), none⟩] none)
  (.block 0 (.loop (.seq (.region [⟨(some 16), .bin (.plain .lss) (.t 15) (.t 14), none⟩] none)
  (.seq (.cond (.t 16) (.skip)
  (.exit 0))
  (.seq (.block 1 (.seq (.region [⟨(some 17), .idxA 18 (.t 13) (.t 15), none⟩,
    ⟨(some 18), .load 18 true (.t 17), none⟩,
    ⟨(some 7), .alloc zProp, none⟩,
    ⟨none, .store 18 (.t 7) (.t 18), none⟩] none)
  (.region [⟨(some 19), .mv (.t 4), none⟩,
    ⟨(some 20), .mv (.t 19), none⟩,
    ⟨(some 21), .fld 2 (.t 7), (some (20, true))⟩,
    ⟨(some 22), .fld 13 (.t 21), (some (20, true))⟩,
    ⟨(some 23), .load 1 false (.t 22), (some (20, true))⟩,
    ⟨(some 24), .un .not (.t 23), (some (20, true))⟩,
    ⟨(some 25), .pick (.t 20) (.t 24) (.c (.s (.c (.bool false)))), none⟩,
    ⟨(some 4), .mv (.t 25), none⟩] none)))
  (.region [⟨(some 26), .bin (.plain .add) (.t 15) (.c (.s (.c (.int .i64 1)))), none⟩,
    ⟨(some 15), .mv (.t 26), none⟩] none)))))))
  (.seq (.region [⟨(some 27), .mv (.t 4), none⟩,
    ⟨(some 28), .mv (.t 5), none⟩,
    ⟨(some 2), .mv (.t 27), none⟩,
    ⟨(some 3), .mv (.t 28), none⟩] none)
  (.ret)))))
  [.tmp 2, .tmp 3]
abbrev c_table_Frozen : Nat := 23

/-- bailiff/bailiffref10.Frozen -/
def L_bailiffref10_Frozen : Fn := Fn.mk
  (.seq (.region [⟨(some 2), .mv (.c (.s (.c (.bool false)))), none⟩,
    ⟨(some 3), .mv (.c (.s (.c (.int .i64 0)))), none⟩] none)
  (.seq (.region [⟨(some 8), .mv (.t 0), none⟩,
    ⟨(some 9), .call 22 [(.t 8)], none⟩,
    ⟨(some 7), .mv (.t 9), none⟩,
    ⟨(some 10), .extract (.t 7) 0, none⟩,
    ⟨(some 11), .extract (.t 7) 1, none⟩,
    ⟨(some 4), .mv (.t 10), none⟩,
    ⟨(some 5), .mv (.t 11), none⟩] none)
  (.seq (.seq (.region [⟨(some 6), .mv (.c (.s (.c (.int .i64 0)))), none⟩] none)
  (.block 0 (.loop (.seq (.seq (.region [⟨(some 12), .mv (.t 6), none⟩,
    ⟨(some 13), .mv (.t 0), none⟩,
    ⟨(some 14), .len false (.t 13), none⟩,
    ⟨(some 15), .bin (.plain .lss) (.t 12) (.t 14), none⟩,
    ⟨(some 16), .mv (.t 15), none⟩,
    ⟨(some 17), .mv (.t 5), (some (16, true))⟩,
    ⟨(some 18), .bin (.plain .eql) (.t 17) (.c (.s (.c (.int .i64 0)))), (some (16, true))⟩,
    ⟨(some 19), .pick (.t 16) (.t 18) (.c (.s (.c (.bool false)))), none⟩] none)
  (.cond (.t 19) (.skip)
  (.exit 0)))
  (.seq (.block 1 (.seq (.region [⟨(some 22), .mv (.t 0), none⟩,
    ⟨(some 23), .mv (.t 6), none⟩,
    ⟨(some 24), .idxA 18 (.t 22) (.t 23), none⟩,
    ⟨(some 25), .fld 2 (.t 24), none⟩,
    ⟨(some 26), .load 16 true (.t 25), none⟩,
    ⟨(some 27), .call 43 [(.t 26)], none⟩,
    ⟨(some 28), .mv (.t 27), none⟩,
    ⟨(some 29), .mv (.t 0), (some (28, true))⟩,
    ⟨(some 30), .mv (.t 6), (some (28, true))⟩,
    ⟨(some 31), .idxA 18 (.t 29) (.t 30), (some (28, true))⟩,
    ⟨(some 32), .fld 2 (.t 31), (some (28, true))⟩,
    ⟨(some 33), .fld 13 (.t 32), (some (28, true))⟩,
    ⟨(some 34), .load 1 false (.t 33), (some (28, true))⟩,
    ⟨(some 35), .pick (.t 28) (.t 34) (.c (.s (.c (.bool false)))), none⟩] none)
  (.cond (.t 35) (.region [⟨(some 4), .mv (.c (.s (.c (.bool false)))), none⟩] none)
  (.skip))))
  (.region [⟨(some 20), .mv (.t 6), none⟩,
    ⟨(some 21), .bin (.plain .add) (.t 20) (.c (.s (.c (.int .i64 1)))), none⟩,
    ⟨(some 6), .mv (.t 21), none⟩] none))))))
  (.seq (.region [⟨(some 36), .mv (.t 4), none⟩,
    ⟨(some 37), .mv (.t 5), none⟩,
    ⟨(some 2), .mv (.t 36), none⟩,
    ⟨(some 3), .mv (.t 37), none⟩] none)
  (.ret)))))
  [.tmp 2, .tmp 3]
abbrev c_bailiffref10_Frozen : Nat := 24

/-- bailiff/bailiffref09.Alike -/
def L_bailiffref09_Alike : Fn := Fn.mk
  (.seq (.region [⟨(some 2), .box 16 (.t 0), none⟩,
    ⟨(some 3), .box 16 (.t 1), none⟩,
    ⟨(some 4), .mv (.c (.s (.c (.bool false)))), none⟩] none)
  (.seq (.region [⟨(some 6), .fld 0 (.t 2), none⟩,
    ⟨(some 7), .load 1 false (.t 6), none⟩,
    ⟨(some 8), .fld 0 (.t 3), none⟩,
    ⟨(some 9), .load 1 false (.t 8), none⟩,
    ⟨(some 10), .bin (.plain .eql) (.t 7) (.t 9), none⟩,
    ⟨(some 11), .mv (.t 10), none⟩,
    ⟨(some 12), .fld 13 (.t 2), (some (11, true))⟩,
    ⟨(some 13), .load 1 false (.t 12), (some (11, true))⟩,
    ⟨(some 14), .fld 13 (.t 3), (some (11, true))⟩,
    ⟨(some 15), .load 1 false (.t 14), (some (11, true))⟩,
    ⟨(some 16), .bin (.eqb true) (.t 13) (.t 15), (some (11, true))⟩,
    ⟨(some 17), .pick (.t 11) (.t 16) (.c (.s (.c (.bool false)))), none⟩,
    ⟨(some 18), .mv (.t 17), none⟩,
    ⟨(some 19), .fld 14 (.t 2), (some (18, true))⟩,
    ⟨(some 20), .load 1 false (.t 19), (some (18, true))⟩,
    ⟨(some 21), .fld 14 (.t 3), (some (18, true))⟩,
    ⟨(some 22), .load 1 false (.t 21), (some (18, true))⟩,
    ⟨(some 23), .bin (.eqb true) (.t 20) (.t 22), (some (18, true))⟩,
    ⟨(some 24), .pick (.t 18) (.t 23) (.c (.s (.c (.bool false)))), none⟩,
    ⟨(some 25), .mv (.t 24), none⟩,
    ⟨(some 26), .fld 15 (.t 2), (some (25, true))⟩,
    ⟨(some 27), .load 1 false (.t 26), (some (25, true))⟩,
    ⟨(some 28), .fld 15 (.t 3), (some (25, true))⟩,
    ⟨(some 29), .load 1 false (.t 28), (some (25, true))⟩,
    ⟨(some 30), .bin (.eqb true) (.t 27) (.t 29), (some (25, true))⟩,
    ⟨(some 31), .pick (.t 25) (.t 30) (.c (.s (.c (.bool false)))), none⟩,
    ⟨(some 5), .mv (.t 31), none⟩] none)
  (.seq (.region [⟨(some 32), .mv (.t 5), none⟩,
    ⟨(some 33), .mv (.t 32), none⟩,
    ⟨(some 34), .fld 1 (.t 2), (some (33, true))⟩,
    ⟨(some 35), .load 4 true (.t 34), (some (33, true))⟩,
    ⟨(some 36), .fld 1 (.t 3), (some (33, true))⟩,
    ⟨(some 37), .load 4 true (.t 36), (some (33, true))⟩,
    ⟨(some 38), .call 44 [(.t 35), (.t 37)], (some (33, true))⟩,
    ⟨(some 39), .pick (.t 33) (.t 38) (.c (.s (.c (.bool false)))), none⟩,
    ⟨(some 40), .mv (.t 39), none⟩,
    ⟨(some 41), .fld 5 (.t 2), (some (40, true))⟩,
    ⟨(some 42), .load 4 true (.t 41), (some (40, true))⟩,
    ⟨(some 43), .fld 5 (.t 3), (some (40, true))⟩,
    ⟨(some 44), .load 4 true (.t 43), (some (40, true))⟩,
    ⟨(some 45), .call 44 [(.t 42), (.t 44)], (some (40, true))⟩,
    ⟨(some 46), .pick (.t 40) (.t 45) (.c (.s (.c (.bool false)))), none⟩,
    ⟨(some 47), .mv (.t 46), none⟩,
    ⟨(some 48), .fld 9 (.t 2), (some (47, true))⟩,
    ⟨(some 49), .load 4 true (.t 48), (some (47, true))⟩,
    ⟨(some 50), .fld 9 (.t 3), (some (47, true))⟩,
    ⟨(some 51), .load 4 true (.t 50), (some (47, true))⟩,
    ⟨(some 52), .call 44 [(.t 49), (.t 51)], (some (47, true))⟩,
    ⟨(some 53), .pick (.t 47) (.t 52) (.c (.s (.c (.bool false)))), none⟩,
    ⟨(some 4), .mv (.t 53), none⟩] none)
  (.ret))))
  [.tmp 4]
abbrev c_bailiffref09_Alike : Nat := 25

/-- bailiff/bailifflaw10.prop -/
def L_bailifflaw10_prop : Fn := Fn.mk
  (.seq (.region [⟨(some 4), .alloc zProp, none⟩] none)
  (.seq (.region [⟨(some 5), .mv (.t 0), none⟩,
    ⟨(some 6), .call 30 [(.t 5)], none⟩,
    ⟨(some 7), .mv (.t 1), none⟩,
    ⟨(some 8), .conv .toFlt (.t 7), none⟩,
    ⟨(some 9), .call 28 [(.t 8)], none⟩,
    ⟨(some 10), .call 29 [(.t 9)], none⟩,
    ⟨(some 11), .build zProp [(0, 2, (.t 6)), (2, 16, (.t 10))], none⟩,
    ⟨none, .store 18 (.t 4) (.t 11), none⟩] none)
  (.ret)))
  [.cell 4 18 true]
abbrev c_bailifflaw10_prop : Nat := 26

/-- bailiff/key.Sym -/
def L_key_Sym : Fn := Fn.mk
  (.seq (.region [⟨(some 2), .alloc zKey, none⟩] none)
  (.seq (.seq (.region [⟨(some 3), .mv (.t 0), none⟩,
    ⟨(some 4), .bin (.plain .lss) (.t 3) (.c (.s (.c (.int .i64 0)))), none⟩,
    ⟨(some 5), .mv (.t 4), none⟩,
    ⟨(some 6), .mv (.t 0), (some (5, false))⟩,
    ⟨(some 7), .bin (.plain .eql) (.t 6) (.c (.s (.c (.int .i64 9223372036854775807)))), (some (5, false))⟩,
    ⟨(some 8), .pick (.t 5) (.c (.s (.c (.bool true)))) (.t 7), none⟩] none)
  (.cond (.t 8) (.seq (.region [⟨(some 9), .build zKey [], none⟩,
    ⟨none, .store 2 (.t 2) (.t 9), none⟩] none)
  (.ret))
  (.skip)))
  (.seq (.region [⟨(some 10), .mv (.t 0), none⟩,
    ⟨(some 11), .bin (.plain .add) (.t 10) (.c (.s (.c (.int .i64 1)))), none⟩,
    ⟨(some 12), .build zKey [(1, 1, (.t 11))], none⟩,
    ⟨none, .store 2 (.t 2) (.t 12), none⟩] none)
  (.ret))))
  [.cell 2 2 true]
abbrev c_key_Sym : Nat := 27

/-- bailiff/desc.Data -/
def L_desc_Data : Fn := Fn.mk
  (.seq (.region [⟨(some 1), .box 4 (.t 0), none⟩,
    ⟨(some 2), .alloc zDesc, none⟩] none)
  (.seq (.region [⟨(some 3), .load 4 true (.t 1), none⟩,
    ⟨(some 4), .build zDesc [(0, 1, (.c (.s (.c (.int .u8 51))))), (1, 4, (.t 3)), (13, 1, (.c (.s (.c (.bool true))))), (14, 1, (.c (.s (.c (.bool true))))), (15, 1, (.c (.s (.c (.bool true)))))], none⟩,
    ⟨none, .store 16 (.t 2) (.t 4), none⟩] none)
  (.ret)))
  [.cell 2 16 true]
abbrev c_desc_Data : Nat := 29

/-- bailiff/value.Num -/
def L_value_Num : Fn := Fn.mk
  (.seq (.region [⟨(some 2), .alloc zVal, none⟩] none)
  (.seq (.region [⟨(some 3), .mv (.t 0), none⟩,
    ⟨(some 4), .build zVal [(0, 1, (.c (.s (.c (.int .u8 3))))), (1, 1, (.t 3))], none⟩,
    ⟨none, .store 4 (.t 2) (.t 4), none⟩] none)
  (.ret)))
  [.cell 2 4 true]
abbrev c_value_Num : Nat := 28

/-- bailiff/key.Of -/
def L_key_Of : Fn := Fn.mk
  (.seq (.region [⟨(some 2), .alloc zKey, none⟩] none)
  (.seq (.region [⟨(some 3), .mv (.t 0), none⟩,
    ⟨(some 4), .build zKey [(0, 1, (.t 3))], none⟩,
    ⟨none, .store 2 (.t 2) (.t 4), none⟩] none)
  (.ret)))
  [.cell 2 2 true]
abbrev c_key_Of : Nat := 30

/-- bailiff/bailifflaw10.alive -/
def L_bailifflaw10_alive : Fn := Fn.mk
  (.seq (.region [⟨(some 0), .mv (.c (.s (.c (.bool false)))), none⟩] none)
  (.seq (.region [⟨(some 7), .call 30 [(.c (.s (.c (.str ⟨#[97]⟩))))], none⟩,
    ⟨(some 8), .call 28 [(.c (.s (.c (.flt 4607182418800017408))))], none⟩,
    ⟨(some 9), .call 29 [(.t 8)], none⟩,
    ⟨(some 10), .call 3 [(.c (.s (.full []))), (.t 7), (.t 9)], none⟩,
    ⟨(some 6), .mv (.t 10), none⟩,
    ⟨(some 11), .extract (.t 6) 0, none⟩,
    ⟨(some 12), .extract (.t 6) 1, none⟩,
    ⟨(some 1), .mv (.t 11), none⟩,
    ⟨(some 2), .mv (.t 12), none⟩] none)
  (.seq (.region [⟨(some 14), .mv (.t 1), none⟩,
    ⟨(some 15), .call 30 [(.c (.s (.c (.str ⟨#[97]⟩))))], none⟩,
    ⟨(some 16), .call 15 [(.t 14), (.t 15)], none⟩,
    ⟨(some 13), .mv (.t 16), none⟩,
    ⟨(some 17), .extract (.t 13) 0, none⟩,
    ⟨(some 18), .extract (.t 13) 1, none⟩,
    ⟨(some 19), .extract (.t 13) 2, none⟩,
    ⟨(some 3), .alloc zDesc, none⟩,
    ⟨none, .store 16 (.t 3) (.t 17), none⟩,
    ⟨(some 4), .mv (.t 18), none⟩,
    ⟨(some 5), .mv (.t 19), none⟩] none)
  (.seq (.region [⟨(some 20), .mv (.t 2), none⟩,
    ⟨(some 21), .bin (.plain .eql) (.t 20) (.c (.s (.c (.int .i64 0)))), none⟩,
    ⟨(some 22), .mv (.t 21), none⟩,
    ⟨(some 23), .mv (.t 1), (some (22, true))⟩,
    ⟨(some 24), .len false (.t 23), (some (22, true))⟩,
    ⟨(some 25), .bin (.plain .eql) (.t 24) (.c (.s (.c (.int .i64 1)))), (some (22, true))⟩,
    ⟨(some 26), .pick (.t 22) (.t 25) (.c (.s (.c (.bool false)))), none⟩,
    ⟨(some 27), .mv (.t 26), none⟩,
    ⟨(some 28), .mv (.t 5), (some (27, true))⟩,
    ⟨(some 29), .bin (.plain .eql) (.t 28) (.c (.s (.c (.int .i64 0)))), (some (27, true))⟩,
    ⟨(some 30), .pick (.t 27) (.t 29) (.c (.s (.c (.bool false)))), none⟩,
    ⟨(some 31), .mv (.t 30), none⟩,
    ⟨(some 32), .mv (.t 4), (some (31, true))⟩,
    ⟨(some 33), .pick (.t 31) (.t 32) (.c (.s (.c (.bool false)))), none⟩,
    ⟨(some 34), .mv (.t 33), none⟩,
    ⟨(some 35), .fld 1 (.t 3), (some (34, true))⟩,
    ⟨(some 36), .fld 1 (.t 35), (some (34, true))⟩,
    ⟨(some 37), .load 1 false (.t 36), (some (34, true))⟩,
    ⟨(some 38), .bin (.plain .eql) (.t 37) (.c (.s (.c (.flt 4607182418800017408)))), (some (34, true))⟩,
    ⟨(some 39), .pick (.t 34) (.t 38) (.c (.s (.c (.bool false)))), none⟩,
    ⟨(some 40), .mv (.t 39), none⟩,
    ⟨(some 41), .mv (.t 1), (some (40, true))⟩,
    ⟨(some 42), .call 13 [(.t 41)], (some (40, true))⟩,
    ⟨(some 43), .bin (.plain .eql) (.t 42) (.c (.s (.c (.int .i64 0)))), (some (40, true))⟩,
    ⟨(some 44), .pick (.t 40) (.t 43) (.c (.s (.c (.bool false)))), none⟩,
    ⟨(some 0), .mv (.t 44), none⟩] none)
  (.ret)))))
  [.tmp 0]
abbrev c_bailifflaw10_alive : Nat := 31

/-- bailiff/key.Check -/
def L_key_Check : Fn := Fn.mk
  (.seq (.region [⟨(some 1), .box 2 (.t 0), none⟩,
    ⟨(some 2), .mv (.c (.s (.c (.int .i64 0)))), none⟩] none)
  (.seq (.seq (.region [⟨(some 3), .fld 1 (.t 1), none⟩,
    ⟨(some 4), .load 1 false (.t 3), none⟩,
    ⟨(some 5), .bin (.plain .lss) (.t 4) (.c (.s (.c (.int .i64 0)))), none⟩,
    ⟨(some 6), .mv (.t 5), none⟩,
    ⟨(some 7), .fld 0 (.t 1), (some (6, false))⟩,
    ⟨(some 8), .load 1 false (.t 7), (some (6, false))⟩,
    ⟨(some 9), .len true (.t 8), (some (6, false))⟩,
    ⟨(some 10), .bin (.plain .gtr) (.t 9) (.c (.s (.c (.int .i64 4096)))), (some (6, false))⟩,
    ⟨(some 11), .pick (.t 6) (.c (.s (.c (.bool true)))) (.t 10), none⟩,
    ⟨(some 12), .mv (.t 11), none⟩,
    ⟨(some 13), .fld 1 (.t 1), (some (12, false))⟩,
    ⟨(some 14), .load 1 false (.t 13), (some (12, false))⟩,
    ⟨(some 15), .bin (.plain .gtr) (.t 14) (.c (.s (.c (.int .i64 0)))), (some (12, false))⟩,
    ⟨(some 16), .mv (.t 15), (some (12, false))⟩,
    ⟨(some 17), .fld 0 (.t 1), (some (16, true))⟩,
    ⟨(some 18), .load 1 false (.t 17), (some (16, true))⟩,
    ⟨(some 19), .bin (.plain .neq) (.t 18) (.c (.s (.c (.str ⟨#[]⟩)))), (some (16, true))⟩,
    ⟨(some 20), .pick (.t 16) (.t 19) (.c (.s (.c (.bool false)))), (some (12, false))⟩,
    ⟨(some 21), .pick (.t 12) (.c (.s (.c (.bool true)))) (.t 20), none⟩] none)
  (.cond (.t 21) (.seq (.region [⟨(some 2), .mv (.c (.s (.c (.int .i64 9)))), none⟩] none)
  (.ret))
  (.skip)))
  (.seq (.region [⟨(some 2), .mv (.c (.s (.c (.int .i64 0)))), none⟩] none)
  (.ret))))
  [.tmp 2]
abbrev c_key_Check : Nat := 32

/-- bailiff/desc.Same -/
def L_desc_Same : Fn := Fn.mk
  (.seq (.region [⟨(some 2), .box 16 (.t 0), none⟩,
    ⟨(some 3), .box 16 (.t 1), none⟩,
    ⟨(some 4), .mv (.c (.s (.c (.bool false)))), none⟩] none)
  (.seq (.block 0 (.seq (.seq (.region [⟨(some 6), .fld 0 (.t 2), none⟩,
    ⟨(some 7), .load 1 false (.t 6), none⟩,
    ⟨(some 8), .fld 0 (.t 3), none⟩,
    ⟨(some 9), .load 1 false (.t 8), none⟩,
    ⟨(some 10), .bin (.plain .neq) (.t 7) (.t 9), none⟩,
    ⟨(some 5), .mv (.t 10), none⟩] none)
  (.cond (.t 5) (.skip)
  (.seq (.region [⟨(some 11), .fld 0 (.t 2), none⟩,
    ⟨(some 12), .load 1 false (.t 11), none⟩,
    ⟨(some 13), .bin (.plain .and) (.t 12) (.c (.s (.c (.int .u8 1)))), none⟩,
    ⟨(some 14), .bin (.plain .neq) (.t 13) (.c (.s (.c (.int .u8 0)))), none⟩,
    ⟨(some 15), .mv (.t 14), none⟩,
    ⟨(some 16), .fld 1 (.t 2), (some (15, true))⟩,
    ⟨(some 17), .load 4 true (.t 16), (some (15, true))⟩,
    ⟨(some 18), .fld 1 (.t 3), (some (15, true))⟩,
    ⟨(some 19), .load 4 true (.t 18), (some (15, true))⟩,
    ⟨(some 20), .call 45 [(.t 17), (.t 19)], (some (15, true))⟩,
    ⟨(some 21), .un .not (.t 20), (some (15, true))⟩,
    ⟨(some 22), .pick (.t 15) (.t 21) (.c (.s (.c (.bool false)))), none⟩,
    ⟨(some 5), .mv (.t 22), none⟩] none)
  (.cond (.t 5) (.skip)
  (.seq (.region [⟨(some 23), .fld 0 (.t 2), none⟩,
    ⟨(some 24), .load 1 false (.t 23), none⟩,
    ⟨(some 25), .bin (.plain .and) (.t 24) (.c (.s (.c (.int .u8 4)))), none⟩,
    ⟨(some 26), .bin (.plain .neq) (.t 25) (.c (.s (.c (.int .u8 0)))), none⟩,
    ⟨(some 27), .mv (.t 26), none⟩,
    ⟨(some 28), .fld 5 (.t 2), (some (27, true))⟩,
    ⟨(some 29), .load 4 true (.t 28), (some (27, true))⟩,
    ⟨(some 30), .fld 5 (.t 3), (some (27, true))⟩,
    ⟨(some 31), .load 4 true (.t 30), (some (27, true))⟩,
    ⟨(some 32), .call 45 [(.t 29), (.t 31)], (some (27, true))⟩,
    ⟨(some 33), .un .not (.t 32), (some (27, true))⟩,
    ⟨(some 34), .pick (.t 27) (.t 33) (.c (.s (.c (.bool false)))), none⟩,
    ⟨(some 5), .mv (.t 34), none⟩] none)
  (.cond (.t 5) (.skip)
  (.seq (.region [⟨(some 35), .fld 0 (.t 2), none⟩,
    ⟨(some 36), .load 1 false (.t 35), none⟩,
    ⟨(some 37), .bin (.plain .and) (.t 36) (.c (.s (.c (.int .u8 8)))), none⟩,
    ⟨(some 38), .bin (.plain .neq) (.t 37) (.c (.s (.c (.int .u8 0)))), none⟩,
    ⟨(some 39), .mv (.t 38), none⟩,
    ⟨(some 40), .fld 9 (.t 2), (some (39, true))⟩,
    ⟨(some 41), .load 4 true (.t 40), (some (39, true))⟩,
    ⟨(some 42), .fld 9 (.t 3), (some (39, true))⟩,
    ⟨(some 43), .load 4 true (.t 42), (some (39, true))⟩,
    ⟨(some 44), .call 45 [(.t 41), (.t 43)], (some (39, true))⟩,
    ⟨(some 45), .un .not (.t 44), (some (39, true))⟩,
    ⟨(some 46), .pick (.t 39) (.t 45) (.c (.s (.c (.bool false)))), none⟩,
    ⟨(some 5), .mv (.t 46), none⟩] none)
  (.cond (.t 5) (.skip)
  (.seq (.region [⟨(some 47), .fld 0 (.t 2), none⟩,
    ⟨(some 48), .load 1 false (.t 47), none⟩,
    ⟨(some 49), .bin (.plain .and) (.t 48) (.c (.s (.c (.int .u8 2)))), none⟩,
    ⟨(some 50), .bin (.plain .neq) (.t 49) (.c (.s (.c (.int .u8 0)))), none⟩,
    ⟨(some 51), .mv (.t 50), none⟩,
    ⟨(some 52), .fld 13 (.t 2), (some (51, true))⟩,
    ⟨(some 53), .load 1 false (.t 52), (some (51, true))⟩,
    ⟨(some 54), .fld 13 (.t 3), (some (51, true))⟩,
    ⟨(some 55), .load 1 false (.t 54), (some (51, true))⟩,
    ⟨(some 56), .bin (.eqb false) (.t 53) (.t 55), (some (51, true))⟩,
    ⟨(some 57), .pick (.t 51) (.t 56) (.c (.s (.c (.bool false)))), none⟩,
    ⟨(some 5), .mv (.t 57), none⟩] none)
  (.cond (.t 5) (.skip)
  (.seq (.region [⟨(some 58), .fld 0 (.t 2), none⟩,
    ⟨(some 59), .load 1 false (.t 58), none⟩,
    ⟨(some 60), .bin (.plain .and) (.t 59) (.c (.s (.c (.int .u8 16)))), none⟩,
    ⟨(some 61), .bin (.plain .neq) (.t 60) (.c (.s (.c (.int .u8 0)))), none⟩,
    ⟨(some 62), .mv (.t 61), none⟩,
    ⟨(some 63), .fld 14 (.t 2), (some (62, true))⟩,
    ⟨(some 64), .load 1 false (.t 63), (some (62, true))⟩,
    ⟨(some 65), .fld 14 (.t 3), (some (62, true))⟩,
    ⟨(some 66), .load 1 false (.t 65), (some (62, true))⟩,
    ⟨(some 67), .bin (.eqb false) (.t 64) (.t 66), (some (62, true))⟩,
    ⟨(some 68), .pick (.t 62) (.t 67) (.c (.s (.c (.bool false)))), none⟩,
    ⟨(some 5), .mv (.t 68), none⟩] none)
  (.cond (.t 5) (.skip)
  (.region [⟨(some 69), .fld 0 (.t 2), none⟩,
    ⟨(some 70), .load 1 false (.t 69), none⟩,
    ⟨(some 71), .bin (.plain .and) (.t 70) (.c (.s (.c (.int .u8 32)))), none⟩,
    ⟨(some 72), .bin (.plain .neq) (.t 71) (.c (.s (.c (.int .u8 0)))), none⟩,
    ⟨(some 73), .mv (.t 72), none⟩,
    ⟨(some 74), .fld 15 (.t 2), (some (73, true))⟩,
    ⟨(some 75), .load 1 false (.t 74), (some (73, true))⟩,
    ⟨(some 76), .fld 15 (.t 3), (some (73, true))⟩,
    ⟨(some 77), .load 1 false (.t 76), (some (73, true))⟩,
    ⟨(some 78), .bin (.eqb false) (.t 75) (.t 77), (some (73, true))⟩,
    ⟨(some 79), .pick (.t 73) (.t 78) (.c (.s (.c (.bool false)))), none⟩,
    ⟨(some 5), .mv (.t 79), none⟩] none)))))))))))))
  (.cond (.t 5) (.seq (.region [⟨(some 4), .mv (.c (.s (.c (.bool false)))), none⟩] none)
  (.ret))
  (.skip))))
  (.seq (.region [⟨(some 4), .mv (.c (.s (.c (.bool true)))), none⟩] none)
  (.ret))))
  [.tmp 4]
abbrev c_desc_Same : Nat := 33

/-- bailiff/table.asked -/
def L_table_asked : Fn := Fn.mk
  (.seq (.region [⟨(some 3), .box 2 (.t 1), none⟩,
    ⟨(some 4), .mv (.c (.s (.c (.int .i64 0)))), none⟩] none)
  (.seq (.seq (.region [⟨(some 6), .mv (.t 0), none⟩,
    ⟨(some 7), .call 13 [(.t 6)], none⟩,
    ⟨(some 5), .mv (.t 7), none⟩] none)
  (.seq (.region [⟨(some 8), .mv (.t 5), none⟩,
    ⟨(some 9), .bin (.plain .neq) (.t 8) (.c (.s (.c (.int .i64 0)))), none⟩] none)
  (.cond (.t 9) (.seq (.region [⟨(some 10), .mv (.t 5), none⟩,
    ⟨(some 4), .mv (.t 10), none⟩] none)
  (.ret))
  (.skip))))
  (.seq (.region [⟨(some 11), .load 2 true (.t 3), none⟩,
    ⟨(some 12), .call 32 [(.t 11)], none⟩,
    ⟨(some 4), .mv (.t 12), none⟩] none)
  (.ret))))
  [.tmp 4]
abbrev c_table_asked : Nat := 34

/-- bailiff/table.at -/
def L_table_at : Fn := Fn.mk
  (.seq (.region [⟨(some 3), .box 2 (.t 1), none⟩,
    ⟨(some 4), .mv (.c (.s (.c (.int .i64 0)))), none⟩] none)
  (.seq (.seq (.region [⟨(some 6), .mv (.t 0), none⟩,
    ⟨(some 7), .len false (.t 6), none⟩,
    ⟨(some 8), .mv (.c (.s (.c (.int .i64 0)))), none⟩] none)
  (.block 0 (.loop (.seq (.region [⟨(some 9), .bin (.plain .lss) (.t 8) (.t 7), none⟩] none)
  (.seq (.cond (.t 9) (.skip)
  (.exit 0))
  (.seq (.block 1 (.seq (.region [⟨(some 10), .mv (.t 8), none⟩,
    ⟨(some 5), .mv (.t 10), none⟩] none)
  (.seq (.region [⟨(some 11), .mv (.t 0), none⟩,
    ⟨(some 12), .mv (.t 5), none⟩,
    ⟨(some 13), .idxA 18 (.t 11) (.t 12), none⟩,
    ⟨(some 14), .fld 0 (.t 13), none⟩,
    ⟨(some 15), .load 2 true (.t 14), none⟩,
    ⟨(some 16), .load 2 true (.t 3), none⟩,
    ⟨(some 17), .bin (.eqs [.str, .int .i64]) (.t 15) (.t 16), none⟩] (some (7, [])))
  (.cond (.t 17) (.seq (.region [⟨(some 18), .mv (.t 5), none⟩,
    ⟨(some 4), .mv (.t 18), none⟩] none)
  (.ret))
  (.skip)))))
  (.region [⟨(some 19), .bin (.plain .add) (.t 8) (.c (.s (.c (.int .i64 1)))), none⟩,
    ⟨(some 8), .mv (.t 19), none⟩] none)))))))
  (.seq (.region [⟨(some 4), .mv (.c (.s (.c (.int .i64 (-1))))), none⟩] none)
  (.ret))))
  [.tmp 4]
abbrev c_table_at : Nat := 35

/-- bailiff/table.whole -/
def L_table_whole : Fn := Fn.mk
  (.seq (.region [⟨(some 1), .box 16 (.t 0), none⟩,
    ⟨(some 2), .mv (.c (.s (.c (.bool false)))), none⟩] none)
  (.seq (.region [⟨(some 6), .load 16 true (.t 1), none⟩,
    ⟨(some 7), .call 46 [(.t 6)], none⟩,
    ⟨(some 5), .mv (.t 7), none⟩,
    ⟨(some 8), .extract (.t 5) 0, none⟩,
    ⟨(some 9), .extract (.t 5) 1, none⟩,
    ⟨(some 3), .alloc zDesc, none⟩,
    ⟨none, .store 16 (.t 3) (.t 8), none⟩,
    ⟨(some 4), .mv (.t 9), none⟩] none)
  (.seq (.region [⟨(some 10), .mv (.t 4), none⟩,
    ⟨(some 11), .bin (.plain .eql) (.t 10) (.c (.s (.c (.int .i64 0)))), none⟩,
    ⟨(some 12), .mv (.t 11), none⟩,
    ⟨(some 13), .fld 0 (.t 3), (some (12, true))⟩,
    ⟨(some 14), .load 1 false (.t 13), (some (12, true))⟩,
    ⟨(some 15), .fld 0 (.t 1), (some (12, true))⟩,
    ⟨(some 16), .load 1 false (.t 15), (some (12, true))⟩,
    ⟨(some 17), .bin (.plain .eql) (.t 14) (.t 16), (some (12, true))⟩,
    ⟨(some 18), .pick (.t 12) (.t 17) (.c (.s (.c (.bool false)))), none⟩,
    ⟨(some 2), .mv (.t 18), none⟩] none)
  (.ret))))
  [.tmp 2]
abbrev c_table_whole : Nat := 36

/-- bailiff/bailiffref10.asked -/
def L_bailiffref10_asked : Fn := Fn.mk
  (.seq (.region [⟨(some 3), .box 2 (.t 1), none⟩,
    ⟨(some 4), .mv (.c (.s (.c (.int .i64 0)))), none⟩] none)
  (.seq (.region [⟨(some 6), .mv (.t 0), none⟩,
    ⟨(some 7), .call 14 [(.t 6)], none⟩,
    ⟨(some 5), .mv (.t 7), none⟩] none)
  (.seq (.seq (.region [⟨(some 8), .mv (.t 5), none⟩,
    ⟨(some 9), .bin (.plain .neq) (.t 8) (.c (.s (.c (.int .i64 0)))), none⟩] none)
  (.cond (.t 9) (.seq (.region [⟨(some 10), .mv (.t 5), none⟩,
    ⟨(some 4), .mv (.t 10), none⟩] none)
  (.ret))
  (.skip)))
  (.seq (.region [⟨(some 11), .load 2 true (.t 3), none⟩,
    ⟨(some 12), .call 42 [(.t 11)], none⟩,
    ⟨(some 4), .mv (.t 12), none⟩] none)
  (.ret)))))
  [.tmp 4]
abbrev c_bailiffref10_asked : Nat := 37

/-- bailiff/bailiffref09.IsWhole -/
def L_bailiffref09_IsWhole : Fn := Fn.mk
  (.seq (.region [⟨(some 1), .box 16 (.t 0), none⟩,
    ⟨(some 2), .mv (.c (.s (.c (.bool false)))), none⟩] none)
  (.seq (.region [⟨(some 3), .load 16 true (.t 1), none⟩,
    ⟨(some 4), .call 47 [(.t 3)], none⟩,
    ⟨(some 5), .bin (.plain .eql) (.t 4) (.c (.s (.c (.int .i64 0)))), none⟩,
    ⟨(some 6), .mv (.t 5), none⟩,
    ⟨(some 7), .fld 0 (.t 1), (some (6, true))⟩,
    ⟨(some 8), .load 1 false (.t 7), (some (6, true))⟩,
    ⟨(some 9), .bin (.plain .eql) (.t 8) (.c (.s (.c (.int .u8 51)))), (some (6, true))⟩,
    ⟨(some 10), .mv (.t 9), (some (6, true))⟩,
    ⟨(some 11), .fld 0 (.t 1), (some (10, false))⟩,
    ⟨(some 12), .load 1 false (.t 11), (some (10, false))⟩,
    ⟨(some 13), .bin (.plain .eql) (.t 12) (.c (.s (.c (.int .u8 60)))), (some (10, false))⟩,
    ⟨(some 14), .pick (.t 10) (.c (.s (.c (.bool true)))) (.t 13), (some (6, true))⟩,
    ⟨(some 15), .pick (.t 6) (.t 14) (.c (.s (.c (.bool false)))), none⟩,
    ⟨(some 2), .mv (.t 15), none⟩] none)
  (.ret)))
  [.tmp 2]
abbrev c_bailiffref09_IsWhole : Nat := 38

/-- bailiff/bailiffref10.Place -/
def L_bailiffref10_Place : Fn := Fn.mk
  (.seq (.region [⟨(some 3), .box 2 (.t 1), none⟩,
    ⟨(some 4), .mv (.c (.s (.c (.int .i64 0)))), none⟩] none)
  (.seq (.seq (.region [⟨(some 5), .mv (.c (.s (.c (.int .i64 0)))), none⟩] none)
  (.block 0 (.loop (.seq (.seq (.region [⟨(some 6), .mv (.t 5), none⟩,
    ⟨(some 7), .mv (.t 0), none⟩,
    ⟨(some 8), .len false (.t 7), none⟩,
    ⟨(some 9), .bin (.plain .lss) (.t 6) (.t 8), none⟩] none)
  (.cond (.t 9) (.skip)
  (.exit 0)))
  (.seq (.block 1 (.seq (.region [⟨(some 12), .mv (.t 0), none⟩,
    ⟨(some 13), .mv (.t 5), none⟩,
    ⟨(some 14), .idxA 18 (.t 12) (.t 13), none⟩,
    ⟨(some 15), .fld 0 (.t 14), none⟩,
    ⟨(some 16), .load 2 true (.t 15), none⟩,
    ⟨(some 17), .load 2 true (.t 3), none⟩,
    ⟨(some 18), .bin (.eqs [.str, .int .i64]) (.t 16) (.t 17), none⟩] (some (7, [])))
  (.cond (.t 18) (.seq (.region [⟨(some 19), .mv (.t 5), none⟩,
    ⟨(some 4), .mv (.t 19), none⟩] none)
  (.ret))
  (.skip))))
  (.region [⟨(some 10), .mv (.t 5), none⟩,
    ⟨(some 11), .bin (.plain .add) (.t 10) (.c (.s (.c (.int .i64 1)))), none⟩,
    ⟨(some 5), .mv (.t 11), none⟩] none))))))
  (.seq (.region [⟨(some 4), .mv (.c (.s (.c (.int .i64 (-1))))), none⟩] none)
  (.ret))))
  [.tmp 4]
abbrev c_bailiffref10_Place : Nat := 39

/-- bailiff/key.Order$1 -/
def L_key_Order_1 : Fn := Fn.mk
  (.seq (.region [⟨(some 5), .mv (.c (.s (.c (.bool false)))), none⟩] none)
  (.seq (.region [⟨(some 11), .load 1 false (.t 2), none⟩,
    ⟨(some 12), .mv (.t 0), none⟩,
    ⟨(some 13), .idxA 2 (.t 11) (.t 12), none⟩,
    ⟨(some 14), .load 2 true (.t 13), none⟩,
    ⟨(some 15), .call 48 [(.t 14)], none⟩,
    ⟨(some 10), .mv (.t 15), none⟩,
    ⟨(some 16), .extract (.t 10) 0, none⟩,
    ⟨(some 17), .extract (.t 10) 1, none⟩,
    ⟨(some 6), .mv (.t 16), none⟩,
    ⟨(some 7), .mv (.t 17), none⟩] none)
  (.seq (.region [⟨(some 19), .load 1 false (.t 2), none⟩,
    ⟨(some 20), .mv (.t 1), none⟩,
    ⟨(some 21), .idxA 2 (.t 19) (.t 20), none⟩,
    ⟨(some 22), .load 2 true (.t 21), none⟩,
    ⟨(some 23), .call 48 [(.t 22)], none⟩,
    ⟨(some 18), .mv (.t 23), none⟩,
    ⟨(some 24), .extract (.t 18) 0, none⟩,
    ⟨(some 25), .extract (.t 18) 1, none⟩,
    ⟨(some 8), .mv (.t 24), none⟩,
    ⟨(some 9), .mv (.t 25), none⟩] none)
  (.seq (.region [⟨(some 26), .mv (.t 6), none⟩,
    ⟨(some 27), .mv (.t 8), none⟩,
    ⟨(some 28), .bin (.plain .lss) (.t 26) (.t 27), none⟩,
    ⟨(some 29), .mv (.t 28), none⟩,
    ⟨(some 30), .mv (.t 6), (some (29, false))⟩,
    ⟨(some 31), .mv (.t 8), (some (29, false))⟩,
    ⟨(some 32), .bin (.plain .eql) (.t 30) (.t 31), (some (29, false))⟩,
    ⟨(some 33), .mv (.t 32), (some (29, false))⟩,
    ⟨(some 34), .mv (.t 7), (some (33, true))⟩,
    ⟨(some 35), .mv (.t 9), (some (33, true))⟩,
    ⟨(some 36), .bin (.plain .lss) (.t 34) (.t 35), (some (33, true))⟩,
    ⟨(some 37), .pick (.t 33) (.t 36) (.c (.s (.c (.bool false)))), (some (29, false))⟩,
    ⟨(some 38), .pick (.t 29) (.c (.s (.c (.bool true)))) (.t 37), none⟩,
    ⟨(some 5), .mv (.t 38), none⟩] none)
  (.ret)))))
  [.tmp 5]
abbrev c_key_Order_1 : Nat := 40

/-- bailiff/key.place -/
def L_key_place : Fn := Fn.mk
  (.seq (.region [⟨(some 1), .box 2 (.t 0), none⟩,
    ⟨(some 2), .mv (.c (.s (.c (.int .i64 0)))), none⟩,
    ⟨(some 3), .mv (.c (.s (.c (.int .i64 0)))), none⟩] none)
  (.seq (.region [⟨(some 7), .load 2 true (.t 1), none⟩,
    ⟨(some 8), .call 49 [(.t 7)], none⟩,
    ⟨(some 6), .mv (.t 8), none⟩,
    ⟨(some 9), .extract (.t 6) 0, none⟩,
    ⟨(some 10), .extract (.t 6) 1, none⟩,
    ⟨(some 4), .mv (.t 9), none⟩,
    ⟨(some 5), .mv (.t 10), none⟩] none)
  (.seq (.block 0 (.seq (.region [⟨(some 12), .mv (.t 5), none⟩,
    ⟨(some 11), .mv (.t 12), none⟩] none)
  (.cond (.t 11) (.seq (.region [⟨(some 13), .mv (.t 4), none⟩,
    ⟨(some 2), .mv (.c (.s (.c (.int .i64 0)))), none⟩,
    ⟨(some 3), .mv (.t 13), none⟩] none)
  (.ret))
  (.seq (.region [⟨(some 15), .fld 1 (.t 1), none⟩,
    ⟨(some 16), .load 1 false (.t 15), none⟩,
    ⟨(some 17), .bin (.plain .gtr) (.t 16) (.c (.s (.c (.int .i64 0)))), none⟩,
    ⟨(some 14), .mv (.t 17), none⟩] none)
  (.cond (.t 14) (.seq (.region [⟨(some 2), .mv (.c (.s (.c (.int .i64 2)))), none⟩,
    ⟨(some 3), .mv (.c (.s (.c (.int .i64 0)))), none⟩] none)
  (.ret))
  (.skip))))))
  (.seq (.region [⟨(some 2), .mv (.c (.s (.c (.int .i64 1)))), none⟩,
    ⟨(some 3), .mv (.c (.s (.c (.int .i64 0)))), none⟩] none)
  (.ret)))))
  [.tmp 2, .tmp 3]
abbrev c_key_place : Nat := 48

/-- sort.SliceStable -/
def L_sort_SliceStable : Fn := Fn.mk
  (.seq (.region [⟨(some 6), .mv (.t 0), none⟩,
    ⟨(some 7), .call 50 [(.t 6)], none⟩,
    ⟨(some 4), .allocx [.c (.nil .ptr), .c (.nil .ptr), .c (.int .u64 0)], none⟩,
    ⟨none, .store 3 (.t 4) (.t 7), none⟩] none)
  (.seq (.region [⟨(some 8), .mv (.t 0), none⟩,
    ⟨(some 9), .call 185 [(.t 8)], none⟩,
    ⟨(some 5), .mv (.t 9), none⟩] none)
  (.region [⟨(some 10), .mv (.t 1), none⟩,
    ⟨(some 11), .mv (.t 5), none⟩,
    ⟨(some 12), .buildx [.c (.nil .func), .c (.nil .func)] [(0, 1, (.t 10)), (1, 1, (.t 11))], none⟩,
    ⟨(some 13), .load 3 true (.t 4), none⟩,
    ⟨(some 14), .call 184 [(.t 13)], none⟩,
    ⟨(some 15), .call 186 [(.t 12), (.t 14)], none⟩] none)))
  []
abbrev c_sort_SliceStable : Nat := 183

/-- bailiff/bailiffref08.Index -/
def L_bailiffref08_Index : Fn := Fn.mk
  (.seq (.region [⟨(some 1), .box 2 (.t 0), none⟩,
    ⟨(some 2), .mv (.c (.s (.c (.int .i64 0)))), none⟩,
    ⟨(some 3), .mv (.c (.s (.c (.bool false)))), none⟩] none)
  (.seq (.seq (.region [⟨(some 5), .fld 1 (.t 1), none⟩,
    ⟨(some 6), .load 1 false (.t 5), none⟩,
    ⟨(some 7), .bin (.plain .gtr) (.t 6) (.c (.s (.c (.int .i64 0)))), none⟩,
    ⟨(some 8), .mv (.t 7), none⟩,
    ⟨(some 9), .fld 0 (.t 1), (some (8, false))⟩,
    ⟨(some 10), .load 1 false (.t 9), (some (8, false))⟩,
    ⟨(some 11), .len true (.t 10), (some (8, false))⟩,
    ⟨(some 12), .bin (.plain .gtr) (.t 11) (.c (.s (.c (.int .i64 4)))), (some (8, false))⟩,
    ⟨(some 13), .pick (.t 8) (.c (.s (.c (.bool true)))) (.t 12), none⟩] none)
  (.cond (.t 13) (.seq (.region [⟨(some 2), .mv (.c (.s (.c (.int .i64 0)))), none⟩,
    ⟨(some 3), .mv (.c (.s (.c (.bool false)))), none⟩] none)
  (.ret))
  (.skip)))
  (.seq (.seq (.region [⟨(some 4), .mv (.c (.s (.c (.int .i64 0)))), none⟩] none)
  (.block 0 (.loop (.seq (.seq (.region [⟨(some 14), .mv (.t 4), none⟩,
    ⟨(some 15), .bin (.plain .lss) (.t 14) (.c (.s (.c (.int .i64 1024)))), none⟩] none)
  (.cond (.t 15) (.skip)
  (.exit 0)))
  (.seq (.block 1 (.seq (.region [⟨(some 18), .mv (.t 4), none⟩,
    ⟨(some 19), .call 51 [(.t 18)], none⟩,
    ⟨(some 20), .fld 0 (.t 1), none⟩,
    ⟨(some 21), .load 1 false (.t 20), none⟩,
    ⟨(some 22), .bin (.plain .eql) (.t 19) (.t 21), none⟩] (some (5, [])))
  (.cond (.t 22) (.seq (.region [⟨(some 23), .mv (.t 4), none⟩,
    ⟨(some 2), .mv (.t 23), none⟩,
    ⟨(some 3), .mv (.c (.s (.c (.bool true)))), none⟩] none)
  (.ret))
  (.skip))))
  (.region [⟨(some 16), .mv (.t 4), none⟩,
    ⟨(some 17), .bin (.plain .add) (.t 16) (.c (.s (.c (.int .i64 1)))), none⟩,
    ⟨(some 4), .mv (.t 17), none⟩] none))))))
  (.seq (.region [⟨(some 2), .mv (.c (.s (.c (.int .i64 0)))), none⟩,
    ⟨(some 3), .mv (.c (.s (.c (.bool false)))), none⟩] none)
  (.ret)))))
  [.tmp 2, .tmp 3]
abbrev c_bailiffref08_Index : Nat := 41

/-- bailiff/bailiffref08.Check -/
def L_bailiffref08_Check : Fn := Fn.mk
  (.seq (.region [⟨(some 1), .box 2 (.t 0), none⟩,
    ⟨(some 2), .mv (.c (.s (.c (.int .i64 0)))), none⟩] none)
  (.seq (.seq (.region [⟨(some 3), .fld 1 (.t 1), none⟩,
    ⟨(some 4), .load 1 false (.t 3), none⟩,
    ⟨(some 5), .bin (.plain .lss) (.t 4) (.c (.s (.c (.int .i64 0)))), none⟩,
    ⟨(some 6), .mv (.t 5), none⟩,
    ⟨(some 7), .fld 0 (.t 1), (some (6, false))⟩,
    ⟨(some 8), .load 1 false (.t 7), (some (6, false))⟩,
    ⟨(some 9), .len true (.t 8), (some (6, false))⟩,
    ⟨(some 10), .bin (.plain .gtr) (.t 9) (.c (.s (.c (.int .i64 4096)))), (some (6, false))⟩,
    ⟨(some 11), .pick (.t 6) (.c (.s (.c (.bool true)))) (.t 10), none⟩,
    ⟨(some 12), .mv (.t 11), none⟩,
    ⟨(some 13), .fld 1 (.t 1), (some (12, false))⟩,
    ⟨(some 14), .load 1 false (.t 13), (some (12, false))⟩,
    ⟨(some 15), .bin (.plain .gtr) (.t 14) (.c (.s (.c (.int .i64 0)))), (some (12, false))⟩,
    ⟨(some 16), .mv (.t 15), (some (12, false))⟩,
    ⟨(some 17), .fld 0 (.t 1), (some (16, true))⟩,
    ⟨(some 18), .load 1 false (.t 17), (some (16, true))⟩,
    ⟨(some 19), .len true (.t 18), (some (16, true))⟩,
    ⟨(some 20), .bin (.plain .gtr) (.t 19) (.c (.s (.c (.int .i64 0)))), (some (16, true))⟩,
    ⟨(some 21), .pick (.t 16) (.t 20) (.c (.s (.c (.bool false)))), (some (12, false))⟩,
    ⟨(some 22), .pick (.t 12) (.c (.s (.c (.bool true)))) (.t 21), none⟩] none)
  (.cond (.t 22) (.seq (.region [⟨(some 2), .mv (.c (.s (.c (.int .i64 9)))), none⟩] none)
  (.ret))
  (.skip)))
  (.seq (.region [⟨(some 2), .mv (.c (.s (.c (.int .i64 0)))), none⟩] none)
  (.ret))))
  [.tmp 2]
abbrev c_bailiffref08_Check : Nat := 42

/-- bailiff/bailiffref09.IsData -/
def L_bailiffref09_IsData : Fn := Fn.mk
  (.seq (.region [⟨(some 1), .box 16 (.t 0), none⟩,
    ⟨(some 2), .mv (.c (.s (.c (.bool false)))), none⟩] none)
  (.seq (.region [⟨(some 3), .load 16 true (.t 1), none⟩,
    ⟨(some 4), .call 52 [(.t 3), (.c (.s (.c (.int .u8 1))))], none⟩,
    ⟨(some 5), .mv (.t 4), none⟩,
    ⟨(some 6), .load 16 true (.t 1), (some (5, false))⟩,
    ⟨(some 7), .call 52 [(.t 6), (.c (.s (.c (.int .u8 2))))], (some (5, false))⟩,
    ⟨(some 8), .pick (.t 5) (.c (.s (.c (.bool true)))) (.t 7), none⟩,
    ⟨(some 2), .mv (.t 8), none⟩] none)
  (.ret)))
  [.tmp 2]
abbrev c_bailiffref09_IsData : Nat := 43

/-- bailiff/bailiffref07.Alike -/
def L_bailiffref07_Alike : Fn := Fn.mk
  (.seq (.region [⟨(some 2), .box 4 (.t 0), none⟩,
    ⟨(some 3), .box 4 (.t 1), none⟩,
    ⟨(some 4), .mv (.c (.s (.c (.bool false)))), none⟩] none)
  (.seq (.region [⟨(some 5), .fld 0 (.t 2), none⟩,
    ⟨(some 6), .load 1 false (.t 5), none⟩,
    ⟨(some 7), .fld 0 (.t 3), none⟩,
    ⟨(some 8), .load 1 false (.t 7), none⟩,
    ⟨(some 9), .bin (.plain .eql) (.t 6) (.t 8), none⟩,
    ⟨(some 10), .mv (.t 9), none⟩,
    ⟨(some 11), .fld 2 (.t 2), (some (10, true))⟩,
    ⟨(some 12), .load 1 false (.t 11), (some (10, true))⟩,
    ⟨(some 13), .fld 2 (.t 3), (some (10, true))⟩,
    ⟨(some 14), .load 1 false (.t 13), (some (10, true))⟩,
    ⟨(some 15), .bin (.plain .eql) (.t 12) (.t 14), (some (10, true))⟩,
    ⟨(some 16), .pick (.t 10) (.t 15) (.c (.s (.c (.bool false)))), none⟩,
    ⟨(some 17), .mv (.t 16), none⟩,
    ⟨(some 18), .fld 3 (.t 2), (some (17, true))⟩,
    ⟨(some 19), .load 1 false (.t 18), (some (17, true))⟩,
    ⟨(some 20), .fld 3 (.t 3), (some (17, true))⟩,
    ⟨(some 21), .load 1 false (.t 20), (some (17, true))⟩,
    ⟨(some 22), .bin (.plain .eql) (.t 19) (.t 21), (some (17, true))⟩,
    ⟨(some 23), .pick (.t 17) (.t 22) (.c (.s (.c (.bool false)))), none⟩,
    ⟨(some 24), .mv (.t 23), none⟩,
    ⟨(some 25), .fld 1 (.t 2), (some (24, true))⟩,
    ⟨(some 26), .load 1 false (.t 25), (some (24, true))⟩,
    ⟨(some 27), .fld 1 (.t 3), (some (24, true))⟩,
    ⟨(some 28), .load 1 false (.t 27), (some (24, true))⟩,
    ⟨(some 29), .call 53 [(.t 26), (.t 28)], (some (24, true))⟩,
    ⟨(some 30), .pick (.t 24) (.t 29) (.c (.s (.c (.bool false)))), none⟩,
    ⟨(some 4), .mv (.t 30), none⟩] none)
  (.ret)))
  [.tmp 4]
abbrev c_bailiffref07_Alike : Nat := 44

/-- bailiff/value.Same -/
def L_value_Same : Fn := Fn.mk
  (.seq (.region [⟨(some 2), .box 4 (.t 0), none⟩,
    ⟨(some 3), .box 4 (.t 1), none⟩,
    ⟨(some 4), .mv (.c (.s (.c (.bool false)))), none⟩] none)
  (.seq (.seq (.region [⟨(some 5), .fld 0 (.t 2), none⟩,
    ⟨(some 6), .load 1 false (.t 5), none⟩,
    ⟨(some 7), .bin (.plain .eql) (.t 6) (.c (.s (.c (.int .u8 3)))), none⟩,
    ⟨(some 8), .mv (.t 7), none⟩,
    ⟨(some 9), .fld 0 (.t 3), (some (8, true))⟩,
    ⟨(some 10), .load 1 false (.t 9), (some (8, true))⟩,
    ⟨(some 11), .bin (.plain .eql) (.t 10) (.c (.s (.c (.int .u8 3)))), (some (8, true))⟩,
    ⟨(some 12), .pick (.t 8) (.t 11) (.c (.s (.c (.bool false)))), none⟩,
    ⟨(some 13), .mv (.t 12), none⟩,
    ⟨(some 14), .fld 1 (.t 2), (some (13, true))⟩,
    ⟨(some 15), .load 1 false (.t 14), (some (13, true))⟩,
    ⟨(some 16), .fld 1 (.t 2), (some (13, true))⟩,
    ⟨(some 17), .load 1 false (.t 16), (some (13, true))⟩,
    ⟨(some 18), .bin (.plain .neq) (.t 15) (.t 17), (some (13, true))⟩,
    ⟨(some 19), .pick (.t 13) (.t 18) (.c (.s (.c (.bool false)))), none⟩] none)
  (.cond (.t 19) (.seq (.region [⟨(some 20), .fld 1 (.t 3), none⟩,
    ⟨(some 21), .load 1 false (.t 20), none⟩,
    ⟨(some 22), .fld 1 (.t 3), none⟩,
    ⟨(some 23), .load 1 false (.t 22), none⟩,
    ⟨(some 24), .bin (.plain .neq) (.t 21) (.t 23), none⟩,
    ⟨(some 4), .mv (.t 24), none⟩] none)
  (.ret))
  (.skip)))
  (.seq (.region [⟨(some 25), .load 4 true (.t 2), none⟩,
    ⟨(some 26), .load 4 true (.t 3), none⟩,
    ⟨(some 27), .call 54 [(.t 25), (.t 26)], none⟩,
    ⟨(some 4), .mv (.t 27), none⟩] none)
  (.ret))))
  [.tmp 4]
abbrev c_value_Same : Nat := 45

/-- bailiff/desc.Complete -/
def L_desc_Complete : Fn := Fn.mk
  (.seq (.region [⟨(some 1), .box 16 (.t 0), none⟩,
    ⟨(some 2), .alloc zDesc, none⟩,
    ⟨(some 3), .mv (.c (.s (.c (.int .i64 0)))), none⟩] none)
  (.seq (.seq (.region [⟨(some 5), .load 16 true (.t 1), none⟩,
    ⟨(some 6), .call 55 [(.t 5)], none⟩,
    ⟨(some 4), .mv (.t 6), none⟩] none)
  (.seq (.region [⟨(some 7), .mv (.t 4), none⟩,
    ⟨(some 8), .bin (.plain .neq) (.t 7) (.c (.s (.c (.int .i64 0)))), none⟩] none)
  (.cond (.t 8) (.seq (.region [⟨(some 9), .build zDesc [], none⟩,
    ⟨(some 10), .mv (.t 4), none⟩,
    ⟨none, .store 16 (.t 2) (.t 9), none⟩,
    ⟨(some 3), .mv (.t 10), none⟩] none)
  (.ret))
  (.skip))))
  (.seq (.region [⟨(some 11), .load 16 true (.t 1), none⟩,
    ⟨(some 12), .call 56 [(.t 11)], none⟩,
    ⟨none, .store 16 (.t 2) (.t 12), none⟩,
    ⟨(some 3), .mv (.c (.s (.c (.int .i64 0)))), none⟩] none)
  (.ret))))
  [.cell 2 16 true, .tmp 3]
abbrev c_desc_Complete : Nat := 46

/-- bailiff/bailiffref09.Check -/
def L_bailiffref09_Check : Fn := Fn.mk
  (.seq (.region [⟨(some 1), .box 16 (.t 0), none⟩,
    ⟨(some 2), .mv (.c (.s (.c (.int .i64 0)))), none⟩] none)
  (.seq (.seq (.region [⟨(some 7), .fld 0 (.t 1), none⟩,
    ⟨(some 8), .load 1 false (.t 7), none⟩,
    ⟨(some 9), .bin (.plain .gtr) (.t 8) (.c (.s (.c (.int .u8 63)))), none⟩,
    ⟨(some 10), .mv (.t 9), none⟩,
    ⟨(some 11), .load 16 true (.t 1), (some (10, false))⟩,
    ⟨(some 12), .call 43 [(.t 11)], (some (10, false))⟩,
    ⟨(some 13), .mv (.t 12), (some (10, false))⟩,
    ⟨(some 14), .load 16 true (.t 1), (some (13, true))⟩,
    ⟨(some 15), .call 57 [(.t 14)], (some (13, true))⟩,
    ⟨(some 16), .pick (.t 13) (.t 15) (.c (.s (.c (.bool false)))), (some (10, false))⟩,
    ⟨(some 17), .pick (.t 10) (.c (.s (.c (.bool true)))) (.t 16), none⟩] none)
  (.cond (.t 17) (.seq (.region [⟨(some 2), .mv (.c (.s (.c (.int .i64 90)))), none⟩] none)
  (.ret))
  (.skip)))
  (.seq (.region [⟨(some 18), .fld 1 (.t 1), none⟩,
    ⟨(some 19), .load 4 true (.t 18), none⟩,
    ⟨(some 20), .call 58 [(.t 19)], none⟩,
    ⟨(some 3), .mv (.t 20), none⟩] none)
  (.seq (.seq (.region [⟨(some 21), .load 16 true (.t 1), none⟩,
    ⟨(some 22), .call 52 [(.t 21), (.c (.s (.c (.int .u8 1))))], none⟩] none)
  (.cond (.t 22) (.region [⟨(some 23), .fld 1 (.t 1), none⟩,
    ⟨(some 24), .load 4 true (.t 23), none⟩,
    ⟨(some 25), .call 59 [(.t 24)], none⟩,
    ⟨(some 3), .mv (.t 25), none⟩] none)
  (.skip)))
  (.seq (.region [⟨(some 26), .fld 5 (.t 1), none⟩,
    ⟨(some 27), .load 4 true (.t 26), none⟩,
    ⟨(some 28), .call 58 [(.t 27)], none⟩,
    ⟨(some 4), .mv (.t 28), none⟩] none)
  (.seq (.seq (.region [⟨(some 29), .load 16 true (.t 1), none⟩,
    ⟨(some 30), .call 52 [(.t 29), (.c (.s (.c (.int .u8 4))))], none⟩] none)
  (.cond (.t 30) (.region [⟨(some 31), .fld 5 (.t 1), none⟩,
    ⟨(some 32), .load 4 true (.t 31), none⟩,
    ⟨(some 33), .call 60 [(.t 32)], none⟩,
    ⟨(some 4), .mv (.t 33), none⟩] none)
  (.skip)))
  (.seq (.region [⟨(some 34), .fld 9 (.t 1), none⟩,
    ⟨(some 35), .load 4 true (.t 34), none⟩,
    ⟨(some 36), .call 58 [(.t 35)], none⟩,
    ⟨(some 5), .mv (.t 36), none⟩] none)
  (.seq (.seq (.region [⟨(some 37), .load 16 true (.t 1), none⟩,
    ⟨(some 38), .call 52 [(.t 37), (.c (.s (.c (.int .u8 8))))], none⟩] none)
  (.cond (.t 38) (.region [⟨(some 39), .fld 9 (.t 1), none⟩,
    ⟨(some 40), .load 4 true (.t 39), none⟩,
    ⟨(some 41), .call 60 [(.t 40)], none⟩,
    ⟨(some 5), .mv (.t 41), none⟩] none)
  (.skip)))
  (.seq (.region [⟨(some 42), .fld 13 (.t 1), none⟩,
    ⟨(some 43), .load 1 false (.t 42), none⟩,
    ⟨(some 44), .un .not (.t 43), none⟩,
    ⟨(some 45), .mv (.t 44), none⟩,
    ⟨(some 46), .load 16 true (.t 1), (some (45, false))⟩,
    ⟨(some 47), .call 52 [(.t 46), (.c (.s (.c (.int .u8 2))))], (some (45, false))⟩,
    ⟨(some 48), .pick (.t 45) (.c (.s (.c (.bool true)))) (.t 47), none⟩,
    ⟨(some 49), .mv (.t 48), none⟩,
    ⟨(some 50), .fld 14 (.t 1), (some (49, true))⟩,
    ⟨(some 51), .load 1 false (.t 50), (some (49, true))⟩,
    ⟨(some 52), .un .not (.t 51), (some (49, true))⟩,
    ⟨(some 53), .mv (.t 52), (some (49, true))⟩,
    ⟨(some 54), .load 16 true (.t 1), (some (53, false))⟩,
    ⟨(some 55), .call 52 [(.t 54), (.c (.s (.c (.int .u8 16))))], (some (53, false))⟩,
    ⟨(some 56), .pick (.t 53) (.c (.s (.c (.bool true)))) (.t 55), (some (49, true))⟩,
    ⟨(some 57), .pick (.t 49) (.t 56) (.c (.s (.c (.bool false)))), none⟩,
    ⟨(some 58), .mv (.t 57), none⟩,
    ⟨(some 59), .fld 15 (.t 1), (some (58, true))⟩,
    ⟨(some 60), .load 1 false (.t 59), (some (58, true))⟩,
    ⟨(some 61), .un .not (.t 60), (some (58, true))⟩,
    ⟨(some 62), .mv (.t 61), (some (58, true))⟩,
    ⟨(some 63), .load 16 true (.t 1), (some (62, false))⟩,
    ⟨(some 64), .call 52 [(.t 63), (.c (.s (.c (.int .u8 32))))], (some (62, false))⟩,
    ⟨(some 65), .pick (.t 62) (.c (.s (.c (.bool true)))) (.t 64), (some (58, true))⟩,
    ⟨(some 66), .pick (.t 58) (.t 65) (.c (.s (.c (.bool false)))), none⟩,
    ⟨(some 6), .mv (.t 66), none⟩] none)
  (.seq (.seq (.region [⟨(some 67), .mv (.t 3), none⟩,
    ⟨(some 68), .un .not (.t 67), none⟩,
    ⟨(some 69), .mv (.t 68), none⟩,
    ⟨(some 70), .mv (.t 4), (some (69, false))⟩,
    ⟨(some 71), .un .not (.t 70), (some (69, false))⟩,
    ⟨(some 72), .pick (.t 69) (.c (.s (.c (.bool true)))) (.t 71), none⟩,
    ⟨(some 73), .mv (.t 72), none⟩,
    ⟨(some 74), .mv (.t 5), (some (73, false))⟩,
    ⟨(some 75), .un .not (.t 74), (some (73, false))⟩,
    ⟨(some 76), .pick (.t 73) (.c (.s (.c (.bool true)))) (.t 75), none⟩,
    ⟨(some 77), .mv (.t 76), none⟩,
    ⟨(some 78), .mv (.t 6), (some (77, false))⟩,
    ⟨(some 79), .un .not (.t 78), (some (77, false))⟩,
    ⟨(some 80), .pick (.t 77) (.c (.s (.c (.bool true)))) (.t 79), none⟩] none)
  (.cond (.t 80) (.seq (.region [⟨(some 2), .mv (.c (.s (.c (.int .i64 90)))), none⟩] none)
  (.ret))
  (.skip)))
  (.seq (.region [⟨(some 2), .mv (.c (.s (.c (.int .i64 0)))), none⟩] none)
  (.ret))))))))))))
  [.tmp 2]
abbrev c_bailiffref09_Check : Nat := 47

/-- bailiff/key.Index -/
def L_key_Index : Fn := Fn.mk
  (.seq (.region [⟨(some 1), .box 2 (.t 0), none⟩,
    ⟨(some 2), .mv (.c (.s (.c (.int .i64 0)))), none⟩,
    ⟨(some 3), .mv (.c (.s (.c (.bool false)))), none⟩] none)
  (.seq (.seq (.region [⟨(some 6), .fld 1 (.t 1), none⟩,
    ⟨(some 7), .load 1 false (.t 6), none⟩,
    ⟨(some 8), .bin (.plain .gtr) (.t 7) (.c (.s (.c (.int .i64 0)))), none⟩,
    ⟨(some 9), .mv (.t 8), none⟩,
    ⟨(some 10), .fld 0 (.t 1), (some (9, false))⟩,
    ⟨(some 11), .load 1 false (.t 10), (some (9, false))⟩,
    ⟨(some 12), .bin (.plain .eql) (.t 11) (.c (.s (.c (.str ⟨#[]⟩)))), (some (9, false))⟩,
    ⟨(some 13), .pick (.t 9) (.c (.s (.c (.bool true)))) (.t 12), none⟩,
    ⟨(some 14), .mv (.t 13), none⟩,
    ⟨(some 15), .fld 0 (.t 1), (some (14, false))⟩,
    ⟨(some 16), .load 1 false (.t 15), (some (14, false))⟩,
    ⟨(some 17), .len true (.t 16), (some (14, false))⟩,
    ⟨(some 18), .bin (.plain .gtr) (.t 17) (.c (.s (.c (.int .i64 4)))), (some (14, false))⟩,
    ⟨(some 19), .pick (.t 14) (.c (.s (.c (.bool true)))) (.t 18), none⟩,
    ⟨(some 20), .mv (.t 19), none⟩,
    ⟨(some 21), .fld 0 (.t 1), (some (20, false))⟩,
    ⟨(some 22), .load 1 false (.t 21), (some (20, false))⟩,
    ⟨(some 23), .len true (.t 22), (some (20, false))⟩,
    ⟨(some 24), .bin (.plain .gtr) (.t 23) (.c (.s (.c (.int .i64 1)))), (some (20, false))⟩,
    ⟨(some 25), .mv (.t 24), (some (20, false))⟩,
    ⟨(some 26), .fld 0 (.t 1), (some (25, true))⟩,
    ⟨(some 27), .load 1 false (.t 26), (some (25, true))⟩,
    ⟨(some 28), .idxS (.t 27) (.c (.s (.c (.int .i64 0)))), (some (25, true))⟩,
    ⟨(some 29), .bin (.plain .eql) (.t 28) (.c (.s (.c (.int .u8 48)))), (some (25, true))⟩,
    ⟨(some 30), .pick (.t 25) (.t 29) (.c (.s (.c (.bool false)))), (some (20, false))⟩,
    ⟨(some 31), .pick (.t 20) (.c (.s (.c (.bool true)))) (.t 30), none⟩] none)
  (.cond (.t 31) (.seq (.region [⟨(some 2), .mv (.c (.s (.c (.int .i64 0)))), none⟩,
    ⟨(some 3), .mv (.c (.s (.c (.bool false)))), none⟩] none)
  (.ret))
  (.skip)))
  (.seq (.region [⟨(some 4), .mv (.c (.s (.c (.int .i64 0)))), none⟩] none)
  (.seq (.seq (.region [⟨(some 32), .fld 0 (.t 1), none⟩,
    ⟨(some 33), .load 1 false (.t 32), none⟩,
    ⟨(some 34), .len true (.t 33), none⟩,
    ⟨(some 35), .mv (.c (.s (.c (.int .i64 0)))), none⟩] none)
  (.block 0 (.loop (.seq (.region [⟨(some 36), .bin (.plain .lss) (.t 35) (.t 34), none⟩] none)
  (.seq (.cond (.t 36) (.skip)
  (.exit 0))
  (.seq (.block 1 (.seq (.region [⟨(some 37), .mv (.t 35), none⟩,
    ⟨(some 5), .mv (.t 37), none⟩] none)
  (.seq (.seq (.region [⟨(some 38), .fld 0 (.t 1), none⟩,
    ⟨(some 39), .load 1 false (.t 38), none⟩,
    ⟨(some 40), .mv (.t 5), none⟩,
    ⟨(some 41), .idxS (.t 39) (.t 40), none⟩,
    ⟨(some 42), .bin (.plain .lss) (.t 41) (.c (.s (.c (.int .u8 48)))), none⟩,
    ⟨(some 43), .mv (.t 42), none⟩,
    ⟨(some 44), .fld 0 (.t 1), (some (43, false))⟩,
    ⟨(some 45), .load 1 false (.t 44), (some (43, false))⟩,
    ⟨(some 46), .mv (.t 5), (some (43, false))⟩,
    ⟨(some 47), .idxS (.t 45) (.t 46), (some (43, false))⟩,
    ⟨(some 48), .bin (.plain .gtr) (.t 47) (.c (.s (.c (.int .u8 57)))), (some (43, false))⟩,
    ⟨(some 49), .pick (.t 43) (.c (.s (.c (.bool true)))) (.t 48), none⟩] none)
  (.cond (.t 49) (.seq (.region [⟨(some 2), .mv (.c (.s (.c (.int .i64 0)))), none⟩,
    ⟨(some 3), .mv (.c (.s (.c (.bool false)))), none⟩] none)
  (.ret))
  (.skip)))
  (.region [⟨(some 50), .mv (.t 4), none⟩,
    ⟨(some 51), .bin (.plain .mul) (.t 50) (.c (.s (.c (.int .i64 10)))), none⟩,
    ⟨(some 52), .fld 0 (.t 1), none⟩,
    ⟨(some 53), .load 1 false (.t 52), none⟩,
    ⟨(some 54), .mv (.t 5), none⟩,
    ⟨(some 55), .idxS (.t 53) (.t 54), none⟩,
    ⟨(some 56), .bin (.plain .sub) (.t 55) (.c (.s (.c (.int .u8 48)))), none⟩,
    ⟨(some 57), .conv (.int .i64) (.t 56), none⟩,
    ⟨(some 58), .bin (.plain .add) (.t 51) (.t 57), none⟩,
    ⟨(some 4), .mv (.t 58), none⟩] none))))
  (.region [⟨(some 59), .bin (.plain .add) (.t 35) (.c (.s (.c (.int .i64 1)))), none⟩,
    ⟨(some 35), .mv (.t 59), none⟩] none)))))))
  (.seq (.seq (.region [⟨(some 60), .mv (.t 4), none⟩,
    ⟨(some 61), .bin (.plain .geq) (.t 60) (.c (.s (.c (.int .i64 1024)))), none⟩] none)
  (.cond (.t 61) (.seq (.region [⟨(some 2), .mv (.c (.s (.c (.int .i64 0)))), none⟩,
    ⟨(some 3), .mv (.c (.s (.c (.bool false)))), none⟩] none)
  (.ret))
  (.skip)))
  (.seq (.region [⟨(some 62), .mv (.t 4), none⟩,
    ⟨(some 2), .mv (.t 62), none⟩,
    ⟨(some 3), .mv (.c (.s (.c (.bool true)))), none⟩] none)
  (.ret)))))))
  [.tmp 2, .tmp 3]
abbrev c_key_Index : Nat := 49

/-- sort.stable_func -/
def L_sort_stable_func : Fn := Fn.mk
  (.seq (.region [⟨(some 2), .box 2 (.t 0), none⟩] none)
  (.seq (.region [⟨(some 4), .mv (.c (.s (.c (.int .i64 20)))), none⟩] none)
  (.seq (.region [⟨(some 8), .mv (.t 4), none⟩,
    ⟨(some 5), .mv (.c (.s (.c (.int .i64 0)))), none⟩,
    ⟨(some 6), .mv (.t 8), none⟩] none)
  (.seq (.block 0 (.loop (.seq (.seq (.region [⟨(some 9), .mv (.t 6), none⟩,
    ⟨(some 10), .mv (.t 1), none⟩,
    ⟨(some 11), .bin (.plain .leq) (.t 9) (.t 10), none⟩] none)
  (.cond (.t 11) (.skip)
  (.exit 0)))
  (.block 1 (.seq (.region [⟨(some 12), .load 2 true (.t 2), none⟩,
    ⟨(some 13), .mv (.t 5), none⟩,
    ⟨(some 14), .mv (.t 6), none⟩,
    ⟨(some 15), .call 61 [(.t 12), (.t 13), (.t 14)], none⟩] none)
  (.seq (.region [⟨(some 16), .mv (.t 6), none⟩,
    ⟨(some 5), .mv (.t 16), none⟩] none)
  (.region [⟨(some 17), .mv (.t 6), none⟩,
    ⟨(some 18), .mv (.t 4), none⟩,
    ⟨(some 19), .bin (.plain .add) (.t 17) (.t 18), none⟩,
    ⟨(some 6), .mv (.t 19), none⟩] none)))))))
  (.seq (.region [⟨(some 20), .load 2 true (.t 2), none⟩,
    ⟨(some 21), .mv (.t 5), none⟩,
    ⟨(some 22), .mv (.t 1), none⟩,
    ⟨(some 23), .call 61 [(.t 20), (.t 21), (.t 22)], none⟩] none)
  (.block 2 (.loop (.seq (.seq (.region [⟨(some 24), .mv (.t 4), none⟩,
    ⟨(some 25), .mv (.t 1), none⟩,
    ⟨(some 26), .bin (.plain .lss) (.t 24) (.t 25), none⟩] none)
  (.cond (.t 26) (.skip)
  (.exit 2)))
  (.block 3 (.seq (.region [⟨(some 27), .mv (.t 4), none⟩,
    ⟨(some 28), .bin (.plain .mul) (.c (.s (.c (.int .i64 2)))) (.t 27), none⟩,
    ⟨(some 5), .mv (.c (.s (.c (.int .i64 0)))), none⟩,
    ⟨(some 6), .mv (.t 28), none⟩] none)
  (.seq (.block 4 (.loop (.seq (.seq (.region [⟨(some 29), .mv (.t 6), none⟩,
    ⟨(some 30), .mv (.t 1), none⟩,
    ⟨(some 31), .bin (.plain .leq) (.t 29) (.t 30), none⟩] none)
  (.cond (.t 31) (.skip)
  (.exit 4)))
  (.block 5 (.seq (.region [⟨(some 32), .load 2 true (.t 2), none⟩,
    ⟨(some 33), .mv (.t 5), none⟩,
    ⟨(some 34), .mv (.t 5), none⟩,
    ⟨(some 35), .mv (.t 4), none⟩,
    ⟨(some 36), .bin (.plain .add) (.t 34) (.t 35), none⟩,
    ⟨(some 37), .mv (.t 6), none⟩,
    ⟨(some 38), .call 62 [(.t 32), (.t 33), (.t 36), (.t 37)], none⟩] none)
  (.seq (.region [⟨(some 39), .mv (.t 6), none⟩,
    ⟨(some 5), .mv (.t 39), none⟩] none)
  (.region [⟨(some 40), .mv (.t 6), none⟩,
    ⟨(some 41), .mv (.t 4), none⟩,
    ⟨(some 42), .bin (.plain .mul) (.c (.s (.c (.int .i64 2)))) (.t 41), none⟩,
    ⟨(some 43), .bin (.plain .add) (.t 40) (.t 42), none⟩,
    ⟨(some 6), .mv (.t 43), none⟩] none)))))))
  (.seq (.seq (.region [⟨(some 44), .mv (.t 5), none⟩,
    ⟨(some 45), .mv (.t 4), none⟩,
    ⟨(some 46), .bin (.plain .add) (.t 44) (.t 45), none⟩,
    ⟨(some 7), .mv (.t 46), none⟩] none)
  (.seq (.region [⟨(some 47), .mv (.t 7), none⟩,
    ⟨(some 48), .mv (.t 1), none⟩,
    ⟨(some 49), .bin (.plain .lss) (.t 47) (.t 48), none⟩] none)
  (.cond (.t 49) (.region [⟨(some 50), .load 2 true (.t 2), none⟩,
    ⟨(some 51), .mv (.t 5), none⟩,
    ⟨(some 52), .mv (.t 7), none⟩,
    ⟨(some 53), .mv (.t 1), none⟩,
    ⟨(some 54), .call 62 [(.t 50), (.t 51), (.t 52), (.t 53)], none⟩] none)
  (.skip))))
  (.region [⟨(some 55), .mv (.t 4), none⟩,
    ⟨(some 56), .bin (.plain .mul) (.t 55) (.c (.s (.c (.int .i64 2)))), none⟩,
    ⟨(some 4), .mv (.t 56), none⟩] none)))))))))))))
  []
abbrev c_sort_stable_func : Nat := 186

/-- bailiff/bailiffref07.Tens -/
def L_bailiffref07_Tens : Fn := Fn.mk
  (.seq (.region [⟨(some 2), .mv (.c (.s (.c (.str ⟨#[]⟩)))), none⟩] none)
  (.seq (.seq (.region [⟨(some 3), .mv (.t 0), none⟩,
    ⟨(some 4), .bin (.plain .lss) (.t 3) (.c (.s (.c (.int .i64 0)))), none⟩,
    ⟨(some 5), .mv (.t 4), none⟩,
    ⟨(some 6), .mv (.t 0), (some (5, true))⟩,
    ⟨(some 7), .un .neg (.t 6), (some (5, true))⟩,
    ⟨(some 8), .bin (.plain .lss) (.t 7) (.c (.s (.c (.int .i64 0)))), (some (5, true))⟩,
    ⟨(some 9), .pick (.t 5) (.t 8) (.c (.s (.c (.bool false)))), none⟩] none)
  (.cond (.t 9) (.seq (.region [⟨(some 10), .mv (.t 0), none⟩,
    ⟨(some 11), .bin (.plain .quo) (.t 10) (.c (.s (.c (.int .i64 10)))), none⟩,
    ⟨(some 12), .call 51 [(.t 11)], none⟩,
    ⟨(some 13), .mv (.t 0), none⟩,
    ⟨(some 14), .bin (.plain .rem) (.t 13) (.c (.s (.c (.int .i64 10)))), none⟩,
    ⟨(some 15), .un .neg (.t 14), none⟩,
    ⟨(some 16), .call 51 [(.t 15)], none⟩,
    ⟨(some 17), .bin (.plain .add) (.t 12) (.t 16), none⟩,
    ⟨(some 2), .mv (.t 17), none⟩] none)
  (.ret))
  (.skip)))
  (.seq (.region [⟨(some 18), .mv (.t 0), none⟩,
    ⟨(some 19), .call 63 [(.t 18)], none⟩,
    ⟨(some 2), .mv (.t 19), none⟩] none)
  (.ret))))
  [.tmp 2]
abbrev c_bailiffref07_Tens : Nat := 51

/-- bailiff/bailiffref09.Has -/
def L_bailiffref09_Has : Fn := Fn.mk
  (.seq (.region [⟨(some 2), .box 16 (.t 0), none⟩,
    ⟨(some 4), .mv (.c (.s (.c (.bool false)))), none⟩] none)
  (.seq (.region [⟨(some 5), .fld 0 (.t 2), none⟩,
    ⟨(some 6), .load 1 false (.t 5), none⟩,
    ⟨(some 7), .mv (.t 1), none⟩,
    ⟨(some 8), .bin (.plain .quo) (.t 6) (.t 7), none⟩,
    ⟨(some 9), .bin (.plain .rem) (.t 8) (.c (.s (.c (.int .u8 2)))), none⟩,
    ⟨(some 10), .bin (.plain .eql) (.t 9) (.c (.s (.c (.int .u8 1)))), none⟩,
    ⟨(some 4), .mv (.t 10), none⟩] none)
  (.ret)))
  [.tmp 4]
abbrev c_bailiffref09_Has : Nat := 52

/-- bailiff/bailiffref01.Same -/
def L_bailiffref01_Same : Fn := Fn.mk
  (.seq (.region [⟨(some 4), .mv (.c (.s (.c (.bool false)))), none⟩] none)
  (.seq (.seq (.region [⟨(some 5), .mv (.t 0), none⟩,
    ⟨(some 6), .mv (.t 0), none⟩,
    ⟨(some 7), .bin (.plain .neq) (.t 5) (.t 6), none⟩,
    ⟨(some 8), .mv (.t 7), none⟩,
    ⟨(some 9), .mv (.t 1), (some (8, false))⟩,
    ⟨(some 10), .mv (.t 1), (some (8, false))⟩,
    ⟨(some 11), .bin (.plain .neq) (.t 9) (.t 10), (some (8, false))⟩,
    ⟨(some 12), .pick (.t 8) (.c (.s (.c (.bool true)))) (.t 11), none⟩] none)
  (.cond (.t 12) (.seq (.region [⟨(some 13), .mv (.t 0), none⟩,
    ⟨(some 14), .mv (.t 0), none⟩,
    ⟨(some 15), .bin (.plain .neq) (.t 13) (.t 14), none⟩,
    ⟨(some 16), .mv (.t 15), none⟩,
    ⟨(some 17), .mv (.t 1), (some (16, true))⟩,
    ⟨(some 18), .mv (.t 1), (some (16, true))⟩,
    ⟨(some 19), .bin (.plain .neq) (.t 17) (.t 18), (some (16, true))⟩,
    ⟨(some 20), .pick (.t 16) (.t 19) (.c (.s (.c (.bool false)))), none⟩,
    ⟨(some 4), .mv (.t 20), none⟩] none)
  (.ret))
  (.skip)))
  (.seq (.region [⟨(some 21), .mv (.t 0), none⟩,
    ⟨(some 22), .mv (.t 1), none⟩,
    ⟨(some 23), .bin (.plain .eql) (.t 21) (.t 22), none⟩,
    ⟨(some 24), .mv (.t 23), none⟩,
    ⟨(some 25), .mv (.t 0), (some (24, true))⟩,
    ⟨(some 26), .bin (.plain .neq) (.t 25) (.c (.s (.c (.flt 0)))), (some (24, true))⟩,
    ⟨(some 27), .mv (.t 26), (some (24, true))⟩,
    ⟨(some 28), .mv (.t 0), (some (27, false))⟩,
    ⟨(some 29), .bin (.plain .quo) (.c (.s (.c (.flt 4607182418800017408)))) (.t 28), (some (27, false))⟩,
    ⟨(some 30), .mv (.t 1), (some (27, false))⟩,
    ⟨(some 31), .bin (.plain .quo) (.c (.s (.c (.flt 4607182418800017408)))) (.t 30), (some (27, false))⟩,
    ⟨(some 32), .bin (.plain .eql) (.t 29) (.t 31), (some (27, false))⟩,
    ⟨(some 33), .pick (.t 27) (.c (.s (.c (.bool true)))) (.t 32), (some (24, true))⟩,
    ⟨(some 34), .pick (.t 24) (.t 33) (.c (.s (.c (.bool false)))), none⟩,
    ⟨(some 4), .mv (.t 34), none⟩] none)
  (.ret))))
  [.tmp 4]
abbrev c_bailiffref01_Same : Nat := 53

/-- bailiff/value.Strict -/
def L_value_Strict : Fn := Fn.mk
  (.seq (.region [⟨(some 2), .box 4 (.t 0), none⟩,
    ⟨(some 3), .box 4 (.t 1), none⟩,
    ⟨(some 4), .mv (.c (.s (.c (.bool false)))), none⟩] none)
  (.seq (.block 0 (.seq (.region [⟨(some 6), .load 4 true (.t 2), none⟩,
    ⟨(some 7), .call 64 [(.t 6)], none⟩,
    ⟨(some 8), .mv (.t 7), none⟩,
    ⟨(some 9), .load 4 true (.t 3), (some (8, true))⟩,
    ⟨(some 10), .call 64 [(.t 9)], (some (8, true))⟩,
    ⟨(some 11), .pick (.t 8) (.t 10) (.c (.s (.c (.bool false)))), none⟩,
    ⟨(some 5), .mv (.t 11), none⟩] none)
  (.cond (.t 5) (.seq (.region [⟨(some 12), .fld 3 (.t 2), none⟩,
    ⟨(some 13), .load 1 false (.t 12), none⟩,
    ⟨(some 14), .fld 3 (.t 3), none⟩,
    ⟨(some 15), .load 1 false (.t 14), none⟩,
    ⟨(some 16), .bin (.plain .eql) (.t 13) (.t 15), none⟩,
    ⟨(some 4), .mv (.t 16), none⟩] none)
  (.ret))
  (.seq (.region [⟨(some 18), .fld 0 (.t 2), none⟩,
    ⟨(some 19), .load 1 false (.t 18), none⟩,
    ⟨(some 20), .fld 0 (.t 3), none⟩,
    ⟨(some 21), .load 1 false (.t 20), none⟩,
    ⟨(some 22), .bin (.plain .neq) (.t 19) (.t 21), none⟩,
    ⟨(some 17), .mv (.t 22), none⟩] none)
  (.cond (.t 17) (.seq (.region [⟨(some 4), .mv (.c (.s (.c (.bool false)))), none⟩] none)
  (.ret))
  (.skip))))))
  (.seq (.seq (.region [⟨(some 23), .fld 0 (.t 2), none⟩,
    ⟨(some 24), .load 1 false (.t 23), none⟩] none)
  (.block 1 (.seq (.seq (.region [⟨(some 26), .bin (.plain .eql) (.t 24) (.c (.s (.c (.int .u8 0)))), none⟩,
    ⟨(some 25), .mv (.t 26), none⟩] none)
  (.cond (.t 25) (.skip)
  (.region [⟨(some 27), .bin (.plain .eql) (.t 24) (.c (.s (.c (.int .u8 1)))), none⟩,
    ⟨(some 25), .mv (.t 27), none⟩] none)))
  (.cond (.t 25) (.seq (.region [⟨(some 4), .mv (.c (.s (.c (.bool true)))), none⟩] none)
  (.ret))
  (.seq (.seq (.region [⟨(some 29), .bin (.plain .eql) (.t 24) (.c (.s (.c (.int .u8 2)))), none⟩,
    ⟨(some 28), .mv (.t 29), none⟩] none)
  (.cond (.t 28) (.skip)
  (.region [⟨(some 30), .bin (.plain .eql) (.t 24) (.c (.s (.c (.int .u8 3)))), none⟩,
    ⟨(some 28), .mv (.t 30), none⟩] none)))
  (.cond (.t 28) (.seq (.region [⟨(some 31), .fld 1 (.t 2), none⟩,
    ⟨(some 32), .load 1 false (.t 31), none⟩,
    ⟨(some 33), .fld 1 (.t 3), none⟩,
    ⟨(some 34), .load 1 false (.t 33), none⟩,
    ⟨(some 35), .bin (.plain .eql) (.t 32) (.t 34), none⟩,
    ⟨(some 4), .mv (.t 35), none⟩] none)
  (.ret))
  (.seq (.region [⟨(some 37), .bin (.plain .eql) (.t 24) (.c (.s (.c (.int .u8 4)))), none⟩,
    ⟨(some 36), .mv (.t 37), none⟩] none)
  (.cond (.t 36) (.seq (.region [⟨(some 38), .fld 2 (.t 2), none⟩,
    ⟨(some 39), .load 1 false (.t 38), none⟩,
    ⟨(some 40), .fld 2 (.t 3), none⟩,
    ⟨(some 41), .load 1 false (.t 40), none⟩,
    ⟨(some 42), .bin (.plain .eql) (.t 39) (.t 41), none⟩,
    ⟨(some 4), .mv (.t 42), none⟩] none)
  (.ret))
  (.seq (.region [⟨(some 44), .bin (.plain .eql) (.t 24) (.c (.s (.c (.int .u8 5)))), none⟩,
    ⟨(some 43), .mv (.t 44), none⟩] none)
  (.cond (.t 43) (.seq (.region [⟨(some 45), .fld 3 (.t 2), none⟩,
    ⟨(some 46), .load 1 false (.t 45), none⟩,
    ⟨(some 47), .fld 3 (.t 3), none⟩,
    ⟨(some 48), .load 1 false (.t 47), none⟩,
    ⟨(some 49), .bin (.plain .eql) (.t 46) (.t 48), none⟩,
    ⟨(some 4), .mv (.t 49), none⟩] none)
  (.ret))
  (.skip)))))))))))
  (.seq (.region [⟨(some 4), .mv (.c (.s (.c (.bool false)))), none⟩] none)
  (.ret)))))
  [.tmp 4]
abbrev c_value_Strict : Nat := 54

/-- bailiff/desc.Check -/
def L_desc_Check : Fn := Fn.mk
  (.seq (.region [⟨(some 1), .box 16 (.t 0), none⟩,
    ⟨(some 2), .mv (.c (.s (.c (.int .i64 0)))), none⟩] none)
  (.seq (.region [⟨(some 5), .fld 0 (.t 1), none⟩,
    ⟨(some 6), .load 1 false (.t 5), none⟩,
    ⟨(some 3), .mv (.t 6), none⟩] none)
  (.seq (.region [⟨(some 7), .mv (.t 3), none⟩,
    ⟨(some 8), .bin (.plain .andNot) (.t 7) (.c (.s (.c (.int .u8 63)))), none⟩,
    ⟨(some 3), .mv (.t 8), none⟩] none)
  (.seq (.seq (.region [⟨(some 9), .mv (.t 3), none⟩,
    ⟨(some 10), .bin (.plain .neq) (.t 9) (.c (.s (.c (.int .u8 0)))), none⟩,
    ⟨(some 11), .mv (.t 10), none⟩,
    ⟨(some 12), .load 16 true (.t 1), (some (11, false))⟩,
    ⟨(some 13), .call 65 [(.t 12)], (some (11, false))⟩,
    ⟨(some 14), .mv (.t 13), (some (11, false))⟩,
    ⟨(some 15), .load 16 true (.t 1), (some (14, true))⟩,
    ⟨(some 16), .call 66 [(.t 15)], (some (14, true))⟩,
    ⟨(some 17), .pick (.t 14) (.t 16) (.c (.s (.c (.bool false)))), (some (11, false))⟩,
    ⟨(some 18), .pick (.t 11) (.c (.s (.c (.bool true)))) (.t 17), none⟩,
    ⟨(some 19), .mv (.t 18), none⟩,
    ⟨(some 20), .fld 1 (.t 1), (some (19, false))⟩,
    ⟨(some 21), .load 4 true (.t 20), (some (19, false))⟩,
    ⟨(some 22), .call 67 [(.t 21)], (some (19, false))⟩,
    ⟨(some 23), .un .not (.t 22), (some (19, false))⟩,
    ⟨(some 24), .pick (.t 19) (.c (.s (.c (.bool true)))) (.t 23), none⟩,
    ⟨(some 25), .mv (.t 24), none⟩,
    ⟨(some 26), .fld 5 (.t 1), (some (25, false))⟩,
    ⟨(some 27), .load 4 true (.t 26), (some (25, false))⟩,
    ⟨(some 28), .call 68 [(.t 27)], (some (25, false))⟩,
    ⟨(some 29), .un .not (.t 28), (some (25, false))⟩,
    ⟨(some 30), .pick (.t 25) (.c (.s (.c (.bool true)))) (.t 29), none⟩,
    ⟨(some 31), .mv (.t 30), none⟩,
    ⟨(some 32), .fld 9 (.t 1), (some (31, false))⟩,
    ⟨(some 33), .load 4 true (.t 32), (some (31, false))⟩,
    ⟨(some 34), .call 68 [(.t 33)], (some (31, false))⟩,
    ⟨(some 35), .un .not (.t 34), (some (31, false))⟩,
    ⟨(some 36), .pick (.t 31) (.c (.s (.c (.bool true)))) (.t 35), none⟩] none)
  (.cond (.t 36) (.seq (.region [⟨(some 2), .mv (.c (.s (.c (.int .i64 90)))), none⟩] none)
  (.ret))
  (.skip)))
  (.seq (.region [⟨(some 37), .fld 0 (.t 1), none⟩,
    ⟨(some 38), .load 1 false (.t 37), none⟩,
    ⟨(some 39), .un .xor (.t 38), none⟩,
    ⟨(some 4), .mv (.t 39), none⟩] none)
  (.seq (.seq (.region [⟨(some 40), .mv (.t 4), none⟩,
    ⟨(some 41), .bin (.plain .and) (.t 40) (.c (.s (.c (.int .u8 1)))), none⟩,
    ⟨(some 42), .bin (.plain .neq) (.t 41) (.c (.s (.c (.int .u8 0)))), none⟩,
    ⟨(some 43), .mv (.t 42), none⟩,
    ⟨(some 44), .fld 1 (.t 1), (some (43, true))⟩,
    ⟨(some 45), .load 4 true (.t 44), (some (43, true))⟩,
    ⟨(some 46), .build zVal [], (some (43, true))⟩,
    ⟨(some 47), .bin (.neqs [.int .u8, .flt, .str, .int .i64]) (.t 45) (.t 46), (some (43, true))⟩,
    ⟨(some 48), .pick (.t 43) (.t 47) (.c (.s (.c (.bool false)))), none⟩,
    ⟨(some 49), .mv (.t 48), none⟩,
    ⟨(some 50), .mv (.t 4), (some (49, false))⟩,
    ⟨(some 51), .bin (.plain .and) (.t 50) (.c (.s (.c (.int .u8 4)))), (some (49, false))⟩,
    ⟨(some 52), .bin (.plain .neq) (.t 51) (.c (.s (.c (.int .u8 0)))), (some (49, false))⟩,
    ⟨(some 53), .mv (.t 52), (some (49, false))⟩,
    ⟨(some 54), .fld 5 (.t 1), (some (53, true))⟩,
    ⟨(some 55), .load 4 true (.t 54), (some (53, true))⟩,
    ⟨(some 56), .build zVal [], (some (53, true))⟩,
    ⟨(some 57), .bin (.neqs [.int .u8, .flt, .str, .int .i64]) (.t 55) (.t 56), (some (53, true))⟩,
    ⟨(some 58), .pick (.t 53) (.t 57) (.c (.s (.c (.bool false)))), (some (49, false))⟩,
    ⟨(some 59), .pick (.t 49) (.c (.s (.c (.bool true)))) (.t 58), none⟩,
    ⟨(some 60), .mv (.t 59), none⟩,
    ⟨(some 61), .mv (.t 4), (some (60, false))⟩,
    ⟨(some 62), .bin (.plain .and) (.t 61) (.c (.s (.c (.int .u8 8)))), (some (60, false))⟩,
    ⟨(some 63), .bin (.plain .neq) (.t 62) (.c (.s (.c (.int .u8 0)))), (some (60, false))⟩,
    ⟨(some 64), .mv (.t 63), (some (60, false))⟩,
    ⟨(some 65), .fld 9 (.t 1), (some (64, true))⟩,
    ⟨(some 66), .load 4 true (.t 65), (some (64, true))⟩,
    ⟨(some 67), .build zVal [], (some (64, true))⟩,
    ⟨(some 68), .bin (.neqs [.int .u8, .flt, .str, .int .i64]) (.t 66) (.t 67), (some (64, true))⟩,
    ⟨(some 69), .pick (.t 64) (.t 68) (.c (.s (.c (.bool false)))), (some (60, false))⟩,
    ⟨(some 70), .pick (.t 60) (.c (.s (.c (.bool true)))) (.t 69), none⟩] none)
  (.cond (.t 70) (.seq (.region [⟨(some 2), .mv (.c (.s (.c (.int .i64 90)))), none⟩] none)
  (.ret))
  (.skip)))
  (.seq (.seq (.region [⟨(some 71), .mv (.t 4), none⟩,
    ⟨(some 72), .bin (.plain .and) (.t 71) (.c (.s (.c (.int .u8 2)))), none⟩,
    ⟨(some 73), .bin (.plain .neq) (.t 72) (.c (.s (.c (.int .u8 0)))), none⟩,
    ⟨(some 74), .mv (.t 73), none⟩,
    ⟨(some 75), .fld 13 (.t 1), (some (74, true))⟩,
    ⟨(some 76), .load 1 false (.t 75), (some (74, true))⟩,
    ⟨(some 77), .pick (.t 74) (.t 76) (.c (.s (.c (.bool false)))), none⟩,
    ⟨(some 78), .mv (.t 77), none⟩,
    ⟨(some 79), .mv (.t 4), (some (78, false))⟩,
    ⟨(some 80), .bin (.plain .and) (.t 79) (.c (.s (.c (.int .u8 16)))), (some (78, false))⟩,
    ⟨(some 81), .bin (.plain .neq) (.t 80) (.c (.s (.c (.int .u8 0)))), (some (78, false))⟩,
    ⟨(some 82), .mv (.t 81), (some (78, false))⟩,
    ⟨(some 83), .fld 14 (.t 1), (some (82, true))⟩,
    ⟨(some 84), .load 1 false (.t 83), (some (82, true))⟩,
    ⟨(some 85), .pick (.t 82) (.t 84) (.c (.s (.c (.bool false)))), (some (78, false))⟩,
    ⟨(some 86), .pick (.t 78) (.c (.s (.c (.bool true)))) (.t 85), none⟩,
    ⟨(some 87), .mv (.t 86), none⟩,
    ⟨(some 88), .mv (.t 4), (some (87, false))⟩,
    ⟨(some 89), .bin (.plain .and) (.t 88) (.c (.s (.c (.int .u8 32)))), (some (87, false))⟩,
    ⟨(some 90), .bin (.plain .neq) (.t 89) (.c (.s (.c (.int .u8 0)))), (some (87, false))⟩,
    ⟨(some 91), .mv (.t 90), (some (87, false))⟩,
    ⟨(some 92), .fld 15 (.t 1), (some (91, true))⟩,
    ⟨(some 93), .load 1 false (.t 92), (some (91, true))⟩,
    ⟨(some 94), .pick (.t 91) (.t 93) (.c (.s (.c (.bool false)))), (some (87, false))⟩,
    ⟨(some 95), .pick (.t 87) (.c (.s (.c (.bool true)))) (.t 94), none⟩] none)
  (.cond (.t 95) (.seq (.region [⟨(some 2), .mv (.c (.s (.c (.int .i64 90)))), none⟩] none)
  (.ret))
  (.skip)))
  (.seq (.region [⟨(some 2), .mv (.c (.s (.c (.int .i64 0)))), none⟩] none)
  (.ret)))))))))
  [.tmp 2]
abbrev c_desc_Check : Nat := 55

/-- bailiff/desc.whole -/
def L_desc_whole : Fn := Fn.mk
  (.seq (.region [⟨(some 1), .box 16 (.t 0), none⟩,
    ⟨(some 2), .alloc zDesc, none⟩] none)
  (.seq (.seq (.region [⟨(some 3), .load 16 true (.t 1), none⟩,
    ⟨(some 4), .call 66 [(.t 3)], none⟩] none)
  (.cond (.t 4) (.region [⟨(some 5), .fld 0 (.t 1), none⟩,
    ⟨(some 6), .load 1 false (.t 5), none⟩,
    ⟨(some 7), .bin (.plain .or) (.t 6) (.c (.s (.c (.int .u8 60)))), none⟩,
    ⟨(some 8), .fld 0 (.t 1), none⟩,
    ⟨none, .store 1 (.t 8) (.t 7), none⟩] none)
  (.region [⟨(some 9), .fld 0 (.t 1), none⟩,
    ⟨(some 10), .load 1 false (.t 9), none⟩,
    ⟨(some 11), .bin (.plain .or) (.t 10) (.c (.s (.c (.int .u8 51)))), none⟩,
    ⟨(some 12), .fld 0 (.t 1), none⟩,
    ⟨none, .store 1 (.t 12) (.t 11), none⟩] none)))
  (.seq (.region [⟨(some 13), .load 16 true (.t 1), none⟩,
    ⟨none, .store 16 (.t 2) (.t 13), none⟩] none)
  (.ret))))
  [.cell 2 16 true]
abbrev c_desc_whole : Nat := 56

/-- bailiff/bailiffref09.IsAccess -/
def L_bailiffref09_IsAccess : Fn := Fn.mk
  (.seq (.region [⟨(some 1), .box 16 (.t 0), none⟩,
    ⟨(some 2), .mv (.c (.s (.c (.bool false)))), none⟩] none)
  (.seq (.region [⟨(some 3), .load 16 true (.t 1), none⟩,
    ⟨(some 4), .call 52 [(.t 3), (.c (.s (.c (.int .u8 4))))], none⟩,
    ⟨(some 5), .mv (.t 4), none⟩,
    ⟨(some 6), .load 16 true (.t 1), (some (5, false))⟩,
    ⟨(some 7), .call 52 [(.t 6), (.c (.s (.c (.int .u8 8))))], (some (5, false))⟩,
    ⟨(some 8), .pick (.t 5) (.c (.s (.c (.bool true)))) (.t 7), none⟩,
    ⟨(some 2), .mv (.t 8), none⟩] none)
  (.ret)))
  [.tmp 2]
abbrev c_bailiffref09_IsAccess : Nat := 57

/-- bailiff/bailiffref09.bare -/
def L_bailiffref09_bare : Fn := Fn.mk
  (.seq (.region [⟨(some 1), .box 4 (.t 0), none⟩,
    ⟨(some 2), .mv (.c (.s (.c (.bool false)))), none⟩] none)
  (.seq (.region [⟨(some 3), .load 4 true (.t 1), none⟩,
    ⟨(some 4), .build zVal [], none⟩,
    ⟨(some 5), .call 44 [(.t 3), (.t 4)], none⟩,
    ⟨(some 2), .mv (.t 5), none⟩] none)
  (.ret)))
  [.tmp 2]
abbrev c_bailiffref09_bare : Nat := 58

/-- bailiff/bailiffref07.May -/
def L_bailiffref07_May : Fn := Fn.mk
  (.seq (.region [⟨(some 1), .box 4 (.t 0), none⟩,
    ⟨(some 2), .mv (.c (.s (.c (.bool false)))), none⟩] none)
  (.seq (.seq (.region [⟨(some 6), .fld 0 (.t 1), none⟩,
    ⟨(some 7), .load 1 false (.t 6), none⟩,
    ⟨(some 8), .bin (.plain .gtr) (.t 7) (.c (.s (.c (.int .u8 8)))), none⟩] none)
  (.cond (.t 8) (.seq (.region [⟨(some 2), .mv (.c (.s (.c (.bool false)))), none⟩] none)
  (.ret))
  (.skip)))
  (.seq (.region [⟨(some 9), .fld 1 (.t 1), none⟩,
    ⟨(some 10), .load 1 false (.t 9), none⟩,
    ⟨(some 11), .call 69 [(.t 10)], none⟩,
    ⟨(some 3), .mv (.t 11), none⟩] none)
  (.seq (.seq (.region [⟨(some 12), .fld 0 (.t 1), none⟩,
    ⟨(some 13), .load 1 false (.t 12), none⟩,
    ⟨(some 14), .bin (.plain .eql) (.t 13) (.c (.s (.c (.int .u8 2)))), none⟩] none)
  (.cond (.t 14) (.region [⟨(some 15), .mv (.t 3), none⟩,
    ⟨(some 16), .mv (.t 15), none⟩,
    ⟨(some 17), .fld 1 (.t 1), (some (16, false))⟩,
    ⟨(some 18), .load 1 false (.t 17), (some (16, false))⟩,
    ⟨(some 19), .bin (.plain .eql) (.t 18) (.c (.s (.c (.flt 4607182418800017408)))), (some (16, false))⟩,
    ⟨(some 20), .pick (.t 16) (.c (.s (.c (.bool true)))) (.t 19), none⟩,
    ⟨(some 3), .mv (.t 20), none⟩] none)
  (.skip)))
  (.seq (.seq (.region [⟨(some 21), .fld 0 (.t 1), none⟩,
    ⟨(some 22), .load 1 false (.t 21), none⟩,
    ⟨(some 23), .bin (.plain .eql) (.t 22) (.c (.s (.c (.int .u8 3)))), none⟩] none)
  (.cond (.t 23) (.region [⟨(some 24), .fld 1 (.t 1), none⟩,
    ⟨(some 25), .load 1 false (.t 24), none⟩,
    ⟨(some 26), .call 70 [(.t 25)], none⟩,
    ⟨(some 3), .mv (.t 26), none⟩] none)
  (.skip)))
  (.seq (.region [⟨(some 27), .fld 2 (.t 1), none⟩,
    ⟨(some 28), .load 1 false (.t 27), none⟩,
    ⟨(some 29), .bin (.plain .eql) (.t 28) (.c (.s (.c (.str ⟨#[]⟩)))), none⟩,
    ⟨(some 30), .mv (.t 29), none⟩,
    ⟨(some 31), .fld 0 (.t 1), (some (30, false))⟩,
    ⟨(some 32), .load 1 false (.t 31), (some (30, false))⟩,
    ⟨(some 33), .bin (.plain .eql) (.t 32) (.c (.s (.c (.int .u8 4)))), (some (30, false))⟩,
    ⟨(some 34), .mv (.t 33), (some (30, false))⟩,
    ⟨(some 35), .fld 2 (.t 1), (some (34, true))⟩,
    ⟨(some 36), .load 1 false (.t 35), (some (34, true))⟩,
    ⟨(some 37), .len true (.t 36), (some (34, true))⟩,
    ⟨(some 38), .bin (.plain .leq) (.t 37) (.c (.s (.c (.int .i64 4096)))), (some (34, true))⟩,
    ⟨(some 39), .pick (.t 34) (.t 38) (.c (.s (.c (.bool false)))), (some (30, false))⟩,
    ⟨(some 40), .pick (.t 30) (.c (.s (.c (.bool true)))) (.t 39), none⟩,
    ⟨(some 4), .mv (.t 40), none⟩] none)
  (.seq (.region [⟨(some 41), .fld 3 (.t 1), none⟩,
    ⟨(some 42), .load 1 false (.t 41), none⟩,
    ⟨(some 43), .bin (.plain .eql) (.t 42) (.c (.s (.c (.int .i64 0)))), none⟩,
    ⟨(some 44), .mv (.t 43), none⟩,
    ⟨(some 45), .fld 0 (.t 1), (some (44, false))⟩,
    ⟨(some 46), .load 1 false (.t 45), (some (44, false))⟩,
    ⟨(some 47), .bin (.plain .geq) (.t 46) (.c (.s (.c (.int .u8 5)))), (some (44, false))⟩,
    ⟨(some 48), .mv (.t 47), (some (44, false))⟩,
    ⟨(some 49), .fld 3 (.t 1), (some (48, true))⟩,
    ⟨(some 50), .load 1 false (.t 49), (some (48, true))⟩,
    ⟨(some 51), .bin (.plain .gtr) (.t 50) (.c (.s (.c (.int .i64 0)))), (some (48, true))⟩,
    ⟨(some 52), .pick (.t 48) (.t 51) (.c (.s (.c (.bool false)))), (some (44, false))⟩,
    ⟨(some 53), .pick (.t 44) (.c (.s (.c (.bool true)))) (.t 52), none⟩,
    ⟨(some 5), .mv (.t 53), none⟩] none)
  (.seq (.region [⟨(some 54), .mv (.t 3), none⟩,
    ⟨(some 55), .mv (.t 54), none⟩,
    ⟨(some 56), .mv (.t 4), (some (55, true))⟩,
    ⟨(some 57), .pick (.t 55) (.t 56) (.c (.s (.c (.bool false)))), none⟩,
    ⟨(some 58), .mv (.t 57), none⟩,
    ⟨(some 59), .mv (.t 5), (some (58, true))⟩,
    ⟨(some 60), .pick (.t 58) (.t 59) (.c (.s (.c (.bool false)))), none⟩,
    ⟨(some 2), .mv (.t 60), none⟩] none)
  (.ret)))))))))
  [.tmp 2]
abbrev c_bailiffref07_May : Nat := 59

/-- bailiff/bailiffref09.called -/
def L_bailiffref09_called : Fn := Fn.mk
  (.seq (.region [⟨(some 1), .box 4 (.t 0), none⟩,
    ⟨(some 2), .mv (.c (.s (.c (.bool false)))), none⟩] none)
  (.seq (.region [⟨(some 3), .load 4 true (.t 1), none⟩,
    ⟨(some 4), .call 59 [(.t 3)], none⟩,
    ⟨(some 5), .mv (.t 4), none⟩,
    ⟨(some 6), .fld 0 (.t 1), (some (5, true))⟩,
    ⟨(some 7), .load 1 false (.t 6), (some (5, true))⟩,
    ⟨(some 8), .bin (.plain .eql) (.t 7) (.c (.s (.c (.int .u8 0)))), (some (5, true))⟩,
    ⟨(some 9), .mv (.t 8), (some (5, true))⟩,
    ⟨(some 10), .load 4 true (.t 1), (some (9, false))⟩,
    ⟨(some 11), .call 71 [(.t 10)], (some (9, false))⟩,
    ⟨(some 12), .pick (.t 9) (.c (.s (.c (.bool true)))) (.t 11), (some (5, true))⟩,
    ⟨(some 13), .pick (.t 5) (.t 12) (.c (.s (.c (.bool false)))), none⟩,
    ⟨(some 2), .mv (.t 13), none⟩] none)
  (.ret)))
  [.tmp 2]
abbrev c_bailiffref09_called : Nat := 60

/-- sort.insertionSort_func -/
def L_sort_insertionSort_func : Fn := Fn.mk
  (.seq (.region [⟨(some 3), .box 2 (.t 0), none⟩] none)
  (.seq (.region [⟨(some 8), .mv (.t 1), none⟩,
    ⟨(some 9), .bin (.plain .add) (.t 8) (.c (.s (.c (.int .i64 1)))), none⟩,
    ⟨(some 6), .mv (.t 9), none⟩] none)
  (.block 0 (.loop (.seq (.seq (.region [⟨(some 10), .mv (.t 6), none⟩,
    ⟨(some 11), .mv (.t 2), none⟩,
    ⟨(some 12), .bin (.plain .lss) (.t 10) (.t 11), none⟩] none)
  (.cond (.t 12) (.skip)
  (.exit 0)))
  (.seq (.block 1 (.seq (.region [⟨(some 15), .mv (.t 6), none⟩,
    ⟨(some 7), .mv (.t 15), none⟩] none)
  (.block 2 (.loop (.seq (.seq (.region [⟨(some 16), .mv (.t 7), none⟩,
    ⟨(some 17), .mv (.t 1), none⟩,
    ⟨(some 18), .bin (.plain .gtr) (.t 16) (.t 17), none⟩,
    ⟨(some 19), .mv (.t 18), none⟩,
    ⟨(some 20), .fld 0 (.t 3), (some (19, true))⟩,
    ⟨(some 21), .load 1 false (.t 20), (some (19, true))⟩,
    ⟨(some 22), .mv (.t 7), (some (19, true))⟩,
    ⟨(some 23), .mv (.t 7), (some (19, true))⟩,
    ⟨(some 24), .bin (.plain .sub) (.t 23) (.c (.s (.c (.int .i64 1)))), (some (19, true))⟩,
    ⟨(some 25), .callv (.t 21) [(.t 22), (.t 24)], (some (19, true))⟩,
    ⟨(some 26), .pick (.t 19) (.t 25) (.c (.s (.c (.bool false)))), none⟩] none)
  (.cond (.t 26) (.skip)
  (.exit 2)))
  (.seq (.block 3 (.region [⟨(some 29), .fld 1 (.t 3), none⟩,
    ⟨(some 30), .load 1 false (.t 29), none⟩,
    ⟨(some 31), .mv (.t 7), none⟩,
    ⟨(some 32), .mv (.t 7), none⟩,
    ⟨(some 33), .bin (.plain .sub) (.t 32) (.c (.s (.c (.int .i64 1)))), none⟩,
    ⟨(some 34), .callv (.t 30) [(.t 31), (.t 33)], none⟩] none))
  (.region [⟨(some 27), .mv (.t 7), none⟩,
    ⟨(some 28), .bin (.plain .sub) (.t 27) (.c (.s (.c (.int .i64 1)))), none⟩,
    ⟨(some 7), .mv (.t 28), none⟩] none)))))))
  (.region [⟨(some 13), .mv (.t 6), none⟩,
    ⟨(some 14), .bin (.plain .add) (.t 13) (.c (.s (.c (.int .i64 1)))), none⟩,
    ⟨(some 6), .mv (.t 14), none⟩] none)))))))
  []
abbrev c_sort_insertionSort_func : Nat := 61

/-- sort.symMerge_func -/
def L_sort_symMerge_func : Fn := Fn.mk
  (.seq (.region [⟨(some 4), .box 2 (.t 0), none⟩] none)
  (.seq (.seq (.region [⟨(some 23), .mv (.t 2), none⟩,
    ⟨(some 24), .mv (.t 1), none⟩,
    ⟨(some 25), .bin (.plain .sub) (.t 23) (.t 24), none⟩,
    ⟨(some 26), .bin (.plain .eql) (.t 25) (.c (.s (.c (.int .i64 1)))), none⟩] none)
  (.cond (.t 26) (.seq (.region [⟨(some 27), .mv (.t 2), none⟩,
    ⟨(some 8), .mv (.t 27), none⟩] none)
  (.seq (.region [⟨(some 28), .mv (.t 3), none⟩,
    ⟨(some 9), .mv (.t 28), none⟩] none)
  (.seq (.block 0 (.loop (.seq (.seq (.region [⟨(some 29), .mv (.t 8), none⟩,
    ⟨(some 30), .mv (.t 9), none⟩,
    ⟨(some 31), .bin (.plain .lss) (.t 29) (.t 30), none⟩] none)
  (.cond (.t 31) (.skip)
  (.exit 0)))
  (.block 1 (.seq (.region [⟨(some 32), .mv (.t 8), none⟩,
    ⟨(some 33), .mv (.t 9), none⟩,
    ⟨(some 34), .bin (.plain .add) (.t 32) (.t 33), none⟩,
    ⟨(some 35), .conv (.int .u64) (.t 34), none⟩,
    ⟨(some 36), .bin (.plain .shr) (.t 35) (.c (.s (.c (.int .u64 1)))), none⟩,
    ⟨(some 37), .conv (.int .i64) (.t 36), none⟩,
    ⟨(some 10), .mv (.t 37), none⟩] none)
  (.seq (.region [⟨(some 38), .fld 0 (.t 4), none⟩,
    ⟨(some 39), .load 1 false (.t 38), none⟩,
    ⟨(some 40), .mv (.t 10), none⟩,
    ⟨(some 41), .mv (.t 1), none⟩,
    ⟨(some 42), .callv (.t 39) [(.t 40), (.t 41)], none⟩] none)
  (.cond (.t 42) (.region [⟨(some 43), .mv (.t 10), none⟩,
    ⟨(some 44), .bin (.plain .add) (.t 43) (.c (.s (.c (.int .i64 1)))), none⟩,
    ⟨(some 8), .mv (.t 44), none⟩] none)
  (.region [⟨(some 45), .mv (.t 10), none⟩,
    ⟨(some 9), .mv (.t 45), none⟩] none))))))))
  (.seq (.seq (.region [⟨(some 46), .mv (.t 1), none⟩,
    ⟨(some 11), .mv (.t 46), none⟩] none)
  (.block 2 (.loop (.seq (.seq (.region [⟨(some 47), .mv (.t 11), none⟩,
    ⟨(some 48), .mv (.t 8), none⟩,
    ⟨(some 49), .bin (.plain .sub) (.t 48) (.c (.s (.c (.int .i64 1)))), none⟩,
    ⟨(some 50), .bin (.plain .lss) (.t 47) (.t 49), none⟩] none)
  (.cond (.t 50) (.skip)
  (.exit 2)))
  (.seq (.block 3 (.region [⟨(some 53), .fld 1 (.t 4), none⟩,
    ⟨(some 54), .load 1 false (.t 53), none⟩,
    ⟨(some 55), .mv (.t 11), none⟩,
    ⟨(some 56), .mv (.t 11), none⟩,
    ⟨(some 57), .bin (.plain .add) (.t 56) (.c (.s (.c (.int .i64 1)))), none⟩,
    ⟨(some 58), .callv (.t 54) [(.t 55), (.t 57)], none⟩] none))
  (.region [⟨(some 51), .mv (.t 11), none⟩,
    ⟨(some 52), .bin (.plain .add) (.t 51) (.c (.s (.c (.int .i64 1)))), none⟩,
    ⟨(some 11), .mv (.t 52), none⟩] none))))))
  (.ret)))))
  (.skip)))
  (.seq (.seq (.region [⟨(some 59), .mv (.t 3), none⟩,
    ⟨(some 60), .mv (.t 2), none⟩,
    ⟨(some 61), .bin (.plain .sub) (.t 59) (.t 60), none⟩,
    ⟨(some 62), .bin (.plain .eql) (.t 61) (.c (.s (.c (.int .i64 1)))), none⟩] none)
  (.cond (.t 62) (.seq (.region [⟨(some 63), .mv (.t 1), none⟩,
    ⟨(some 12), .mv (.t 63), none⟩] none)
  (.seq (.region [⟨(some 64), .mv (.t 2), none⟩,
    ⟨(some 13), .mv (.t 64), none⟩] none)
  (.seq (.block 4 (.loop (.seq (.seq (.region [⟨(some 65), .mv (.t 12), none⟩,
    ⟨(some 66), .mv (.t 13), none⟩,
    ⟨(some 67), .bin (.plain .lss) (.t 65) (.t 66), none⟩] none)
  (.cond (.t 67) (.skip)
  (.exit 4)))
  (.block 5 (.seq (.region [⟨(some 68), .mv (.t 12), none⟩,
    ⟨(some 69), .mv (.t 13), none⟩,
    ⟨(some 70), .bin (.plain .add) (.t 68) (.t 69), none⟩,
    ⟨(some 71), .conv (.int .u64) (.t 70), none⟩,
    ⟨(some 72), .bin (.plain .shr) (.t 71) (.c (.s (.c (.int .u64 1)))), none⟩,
    ⟨(some 73), .conv (.int .i64) (.t 72), none⟩,
    ⟨(some 14), .mv (.t 73), none⟩] none)
  (.seq (.region [⟨(some 74), .fld 0 (.t 4), none⟩,
    ⟨(some 75), .load 1 false (.t 74), none⟩,
    ⟨(some 76), .mv (.t 2), none⟩,
    ⟨(some 77), .mv (.t 14), none⟩,
    ⟨(some 78), .callv (.t 75) [(.t 76), (.t 77)], none⟩,
    ⟨(some 79), .un .not (.t 78), none⟩] none)
  (.cond (.t 79) (.region [⟨(some 80), .mv (.t 14), none⟩,
    ⟨(some 81), .bin (.plain .add) (.t 80) (.c (.s (.c (.int .i64 1)))), none⟩,
    ⟨(some 12), .mv (.t 81), none⟩] none)
  (.region [⟨(some 82), .mv (.t 14), none⟩,
    ⟨(some 13), .mv (.t 82), none⟩] none))))))))
  (.seq (.seq (.region [⟨(some 83), .mv (.t 2), none⟩,
    ⟨(some 15), .mv (.t 83), none⟩] none)
  (.block 6 (.loop (.seq (.seq (.region [⟨(some 84), .mv (.t 15), none⟩,
    ⟨(some 85), .mv (.t 12), none⟩,
    ⟨(some 86), .bin (.plain .gtr) (.t 84) (.t 85), none⟩] none)
  (.cond (.t 86) (.skip)
  (.exit 6)))
  (.seq (.block 7 (.region [⟨(some 89), .fld 1 (.t 4), none⟩,
    ⟨(some 90), .load 1 false (.t 89), none⟩,
    ⟨(some 91), .mv (.t 15), none⟩,
    ⟨(some 92), .mv (.t 15), none⟩,
    ⟨(some 93), .bin (.plain .sub) (.t 92) (.c (.s (.c (.int .i64 1)))), none⟩,
    ⟨(some 94), .callv (.t 90) [(.t 91), (.t 93)], none⟩] none))
  (.region [⟨(some 87), .mv (.t 15), none⟩,
    ⟨(some 88), .bin (.plain .sub) (.t 87) (.c (.s (.c (.int .i64 1)))), none⟩,
    ⟨(some 15), .mv (.t 88), none⟩] none))))))
  (.ret)))))
  (.skip)))
  (.seq (.region [⟨(some 95), .mv (.t 1), none⟩,
    ⟨(some 96), .mv (.t 3), none⟩,
    ⟨(some 97), .bin (.plain .add) (.t 95) (.t 96), none⟩,
    ⟨(some 98), .conv (.int .u64) (.t 97), none⟩,
    ⟨(some 99), .bin (.plain .shr) (.t 98) (.c (.s (.c (.int .u64 1)))), none⟩,
    ⟨(some 100), .conv (.int .i64) (.t 99), none⟩,
    ⟨(some 16), .mv (.t 100), none⟩] none)
  (.seq (.region [⟨(some 101), .mv (.t 16), none⟩,
    ⟨(some 102), .mv (.t 2), none⟩,
    ⟨(some 103), .bin (.plain .add) (.t 101) (.t 102), none⟩,
    ⟨(some 17), .mv (.t 103), none⟩] none)
  (.seq (.region [⟨(some 18), .mv (.c (.s (.c (.int .i64 0)))), none⟩,
    ⟨(some 19), .mv (.c (.s (.c (.int .i64 0)))), none⟩] none)
  (.seq (.seq (.region [⟨(some 104), .mv (.t 2), none⟩,
    ⟨(some 105), .mv (.t 16), none⟩,
    ⟨(some 106), .bin (.plain .gtr) (.t 104) (.t 105), none⟩] none)
  (.cond (.t 106) (.seq (.region [⟨(some 107), .mv (.t 17), none⟩,
    ⟨(some 108), .mv (.t 3), none⟩,
    ⟨(some 109), .bin (.plain .sub) (.t 107) (.t 108), none⟩,
    ⟨(some 18), .mv (.t 109), none⟩] none)
  (.region [⟨(some 110), .mv (.t 16), none⟩,
    ⟨(some 19), .mv (.t 110), none⟩] none))
  (.seq (.region [⟨(some 111), .mv (.t 1), none⟩,
    ⟨(some 18), .mv (.t 111), none⟩] none)
  (.region [⟨(some 112), .mv (.t 2), none⟩,
    ⟨(some 19), .mv (.t 112), none⟩] none))))
  (.seq (.region [⟨(some 113), .mv (.t 17), none⟩,
    ⟨(some 114), .bin (.plain .sub) (.t 113) (.c (.s (.c (.int .i64 1)))), none⟩,
    ⟨(some 20), .mv (.t 114), none⟩] none)
  (.seq (.block 8 (.loop (.seq (.seq (.region [⟨(some 115), .mv (.t 18), none⟩,
    ⟨(some 116), .mv (.t 19), none⟩,
    ⟨(some 117), .bin (.plain .lss) (.t 115) (.t 116), none⟩] none)
  (.cond (.t 117) (.skip)
  (.exit 8)))
  (.block 9 (.seq (.region [⟨(some 118), .mv (.t 18), none⟩,
    ⟨(some 119), .mv (.t 19), none⟩,
    ⟨(some 120), .bin (.plain .add) (.t 118) (.t 119), none⟩,
    ⟨(some 121), .conv (.int .u64) (.t 120), none⟩,
    ⟨(some 122), .bin (.plain .shr) (.t 121) (.c (.s (.c (.int .u64 1)))), none⟩,
    ⟨(some 123), .conv (.int .i64) (.t 122), none⟩,
    ⟨(some 21), .mv (.t 123), none⟩] none)
  (.seq (.region [⟨(some 124), .fld 0 (.t 4), none⟩,
    ⟨(some 125), .load 1 false (.t 124), none⟩,
    ⟨(some 126), .mv (.t 20), none⟩,
    ⟨(some 127), .mv (.t 21), none⟩,
    ⟨(some 128), .bin (.plain .sub) (.t 126) (.t 127), none⟩,
    ⟨(some 129), .mv (.t 21), none⟩,
    ⟨(some 130), .callv (.t 125) [(.t 128), (.t 129)], none⟩,
    ⟨(some 131), .un .not (.t 130), none⟩] none)
  (.cond (.t 131) (.region [⟨(some 132), .mv (.t 21), none⟩,
    ⟨(some 133), .bin (.plain .add) (.t 132) (.c (.s (.c (.int .i64 1)))), none⟩,
    ⟨(some 18), .mv (.t 133), none⟩] none)
  (.region [⟨(some 134), .mv (.t 21), none⟩,
    ⟨(some 19), .mv (.t 134), none⟩] none))))))))
  (.seq (.region [⟨(some 135), .mv (.t 17), none⟩,
    ⟨(some 136), .mv (.t 18), none⟩,
    ⟨(some 137), .bin (.plain .sub) (.t 135) (.t 136), none⟩,
    ⟨(some 22), .mv (.t 137), none⟩] none)
  (.seq (.seq (.region [⟨(some 138), .mv (.t 18), none⟩,
    ⟨(some 139), .mv (.t 2), none⟩,
    ⟨(some 140), .bin (.plain .lss) (.t 138) (.t 139), none⟩,
    ⟨(some 141), .mv (.t 140), none⟩,
    ⟨(some 142), .mv (.t 2), (some (141, true))⟩,
    ⟨(some 143), .mv (.t 22), (some (141, true))⟩,
    ⟨(some 144), .bin (.plain .lss) (.t 142) (.t 143), (some (141, true))⟩,
    ⟨(some 145), .pick (.t 141) (.t 144) (.c (.s (.c (.bool false)))), none⟩] none)
  (.cond (.t 145) (.region [⟨(some 146), .load 2 true (.t 4), none⟩,
    ⟨(some 147), .mv (.t 18), none⟩,
    ⟨(some 148), .mv (.t 2), none⟩,
    ⟨(some 149), .mv (.t 22), none⟩,
    ⟨(some 150), .call 72 [(.t 146), (.t 147), (.t 148), (.t 149)], none⟩] none)
  (.skip)))
  (.seq (.seq (.region [⟨(some 151), .mv (.t 1), none⟩,
    ⟨(some 152), .mv (.t 18), none⟩,
    ⟨(some 153), .bin (.plain .lss) (.t 151) (.t 152), none⟩,
    ⟨(some 154), .mv (.t 153), none⟩,
    ⟨(some 155), .mv (.t 18), (some (154, true))⟩,
    ⟨(some 156), .mv (.t 16), (some (154, true))⟩,
    ⟨(some 157), .bin (.plain .lss) (.t 155) (.t 156), (some (154, true))⟩,
    ⟨(some 158), .pick (.t 154) (.t 157) (.c (.s (.c (.bool false)))), none⟩] none)
  (.cond (.t 158) (.region [⟨(some 159), .load 2 true (.t 4), none⟩,
    ⟨(some 160), .mv (.t 1), none⟩,
    ⟨(some 161), .mv (.t 18), none⟩,
    ⟨(some 162), .mv (.t 16), none⟩,
    ⟨(some 163), .call 62 [(.t 159), (.t 160), (.t 161), (.t 162)], none⟩] none)
  (.skip)))
  (.seq (.region [⟨(some 164), .mv (.t 16), none⟩,
    ⟨(some 165), .mv (.t 22), none⟩,
    ⟨(some 166), .bin (.plain .lss) (.t 164) (.t 165), none⟩,
    ⟨(some 167), .mv (.t 166), none⟩,
    ⟨(some 168), .mv (.t 22), (some (167, true))⟩,
    ⟨(some 169), .mv (.t 3), (some (167, true))⟩,
    ⟨(some 170), .bin (.plain .lss) (.t 168) (.t 169), (some (167, true))⟩,
    ⟨(some 171), .pick (.t 167) (.t 170) (.c (.s (.c (.bool false)))), none⟩] none)
  (.cond (.t 171) (.region [⟨(some 172), .load 2 true (.t 4), none⟩,
    ⟨(some 173), .mv (.t 16), none⟩,
    ⟨(some 174), .mv (.t 22), none⟩,
    ⟨(some 175), .mv (.t 3), none⟩,
    ⟨(some 176), .call 62 [(.t 172), (.t 173), (.t 174), (.t 175)], none⟩] none)
  (.skip)))))))))))))))
  []
abbrev c_sort_symMerge_func : Nat := 62

/-- bailiff/bailiffref01.Tens -/
def L_bailiffref01_Tens : Fn := Fn.mk
  (.seq (.region [⟨(some 2), .mv (.c (.s (.c (.str ⟨#[]⟩)))), none⟩] none)
  (.seq (.seq (.region [⟨(some 4), .mv (.t 0), none⟩,
    ⟨(some 5), .bin (.plain .leq) (.t 4) (.c (.s (.c (.int .i64 (-10))))), none⟩] none)
  (.cond (.t 5) (.seq (.region [⟨(some 6), .mv (.t 0), none⟩,
    ⟨(some 7), .bin (.plain .quo) (.t 6) (.c (.s (.c (.int .i64 10)))), none⟩,
    ⟨(some 8), .un .neg (.t 7), none⟩,
    ⟨(some 9), .call 63 [(.t 8)], none⟩,
    ⟨(some 10), .bin (.plain .add) (.c (.s (.c (.str ⟨#[45]⟩)))) (.t 9), none⟩,
    ⟨(some 11), .mv (.t 0), none⟩,
    ⟨(some 12), .bin (.plain .rem) (.t 11) (.c (.s (.c (.int .i64 10)))), none⟩,
    ⟨(some 13), .un .neg (.t 12), none⟩,
    ⟨(some 14), .call 63 [(.t 13)], none⟩,
    ⟨(some 15), .bin (.plain .add) (.t 10) (.t 14), none⟩,
    ⟨(some 2), .mv (.t 15), none⟩] none)
  (.ret))
  (.skip)))
  (.seq (.seq (.region [⟨(some 16), .mv (.t 0), none⟩,
    ⟨(some 17), .bin (.plain .lss) (.t 16) (.c (.s (.c (.int .i64 0)))), none⟩] none)
  (.cond (.t 17) (.seq (.region [⟨(some 18), .mv (.t 0), none⟩,
    ⟨(some 19), .un .neg (.t 18), none⟩,
    ⟨(some 20), .call 63 [(.t 19)], none⟩,
    ⟨(some 21), .bin (.plain .add) (.c (.s (.c (.str ⟨#[45]⟩)))) (.t 20), none⟩,
    ⟨(some 2), .mv (.t 21), none⟩] none)
  (.ret))
  (.skip)))
  (.seq (.region [⟨(some 3), .mv (.c (.s (.c (.str ⟨#[]⟩)))), none⟩] none)
  (.seq (.block 0 (.loop (.seq (.seq (.region [⟨(some 22), .mv (.t 0), none⟩,
    ⟨(some 23), .bin (.plain .geq) (.t 22) (.c (.s (.c (.int .i64 10)))), none⟩] none)
  (.cond (.t 23) (.skip)
  (.exit 0)))
  (.block 1 (.seq (.region [⟨(some 24), .mv (.t 0), none⟩,
    ⟨(some 25), .bin (.plain .rem) (.t 24) (.c (.s (.c (.int .i64 10)))), none⟩,
    ⟨(some 26), .bin (.plain .add) (.c (.s (.c (.int .i64 48)))) (.t 25), none⟩,
    ⟨(some 27), .conv (.int .i32) (.t 26), none⟩,
    ⟨(some 28), .conv .rune (.t 27), none⟩,
    ⟨(some 29), .mv (.t 3), none⟩,
    ⟨(some 30), .bin (.plain .add) (.t 28) (.t 29), none⟩,
    ⟨(some 3), .mv (.t 30), none⟩] none)
  (.region [⟨(some 31), .mv (.t 0), none⟩,
    ⟨(some 32), .bin (.plain .quo) (.t 31) (.c (.s (.c (.int .i64 10)))), none⟩,
    ⟨(some 0), .mv (.t 32), none⟩] none))))))
  (.seq (.region [⟨(some 33), .mv (.t 0), none⟩,
    ⟨(some 34), .bin (.plain .add) (.c (.s (.c (.int .i64 48)))) (.t 33), none⟩,
    ⟨(some 35), .conv (.int .i32) (.t 34), none⟩,
    ⟨(some 36), .conv .rune (.t 35), none⟩,
    ⟨(some 37), .mv (.t 3), none⟩,
    ⟨(some 38), .bin (.plain .add) (.t 36) (.t 37), none⟩,
    ⟨(some 2), .mv (.t 38), none⟩] none)
  (.ret)))))))
  [.tmp 2]
abbrev c_bailiffref01_Tens : Nat := 63

/-- bailiff/value.IsObject -/
def L_value_IsObject : Fn := Fn.mk
  (.seq (.region [⟨(some 1), .box 4 (.t 0), none⟩,
    ⟨(some 2), .mv (.c (.s (.c (.bool false)))), none⟩] none)
  (.seq (.region [⟨(some 3), .fld 0 (.t 1), none⟩,
    ⟨(some 4), .load 1 false (.t 3), none⟩,
    ⟨(some 5), .bin (.plain .geq) (.t 4) (.c (.s (.c (.int .u8 6)))), none⟩,
    ⟨(some 6), .mv (.t 5), none⟩,
    ⟨(some 7), .fld 0 (.t 1), (some (6, true))⟩,
    ⟨(some 8), .load 1 false (.t 7), (some (6, true))⟩,
    ⟨(some 9), .bin (.plain .leq) (.t 8) (.c (.s (.c (.int .u8 8)))), (some (6, true))⟩,
    ⟨(some 10), .pick (.t 6) (.t 9) (.c (.s (.c (.bool false)))), none⟩,
    ⟨(some 2), .mv (.t 10), none⟩] none)
  (.ret)))
  [.tmp 2]
abbrev c_value_IsObject : Nat := 64

/-- bailiff/desc.IsData -/
def L_desc_IsData : Fn := Fn.mk
  (.seq (.region [⟨(some 1), .box 16 (.t 0), none⟩,
    ⟨(some 2), .mv (.c (.s (.c (.bool false)))), none⟩] none)
  (.seq (.region [⟨(some 3), .fld 0 (.t 1), none⟩,
    ⟨(some 4), .load 1 false (.t 3), none⟩,
    ⟨(some 5), .bin (.plain .and) (.t 4) (.c (.s (.c (.int .u8 3)))), none⟩,
    ⟨(some 6), .bin (.plain .neq) (.t 5) (.c (.s (.c (.int .u8 0)))), none⟩,
    ⟨(some 2), .mv (.t 6), none⟩] none)
  (.ret)))
  [.tmp 2]
abbrev c_desc_IsData : Nat := 65

/-- bailiff/desc.IsAccess -/
def L_desc_IsAccess : Fn := Fn.mk
  (.seq (.region [⟨(some 1), .box 16 (.t 0), none⟩,
    ⟨(some 2), .mv (.c (.s (.c (.bool false)))), none⟩] none)
  (.seq (.region [⟨(some 3), .fld 0 (.t 1), none⟩,
    ⟨(some 4), .load 1 false (.t 3), none⟩,
    ⟨(some 5), .bin (.plain .and) (.t 4) (.c (.s (.c (.int .u8 12)))), none⟩,
    ⟨(some 6), .bin (.plain .neq) (.t 5) (.c (.s (.c (.int .u8 0)))), none⟩,
    ⟨(some 2), .mv (.t 6), none⟩] none)
  (.ret)))
  [.tmp 2]
abbrev c_desc_IsAccess : Nat := 66

/-- bailiff/value.May -/
def L_value_May : Fn := Fn.mk
  (.seq (.region [⟨(some 1), .box 4 (.t 0), none⟩,
    ⟨(some 2), .mv (.c (.s (.c (.bool false)))), none⟩] none)
  (.seq (.seq (.region [⟨(some 4), .fld 0 (.t 1), none⟩,
    ⟨(some 5), .load 1 false (.t 4), none⟩,
    ⟨(some 6), .bin (.plain .gtr) (.t 5) (.c (.s (.c (.int .u8 8)))), none⟩,
    ⟨(some 7), .mv (.t 6), none⟩,
    ⟨(some 8), .fld 3 (.t 1), (some (7, false))⟩,
    ⟨(some 9), .load 1 false (.t 8), (some (7, false))⟩,
    ⟨(some 10), .bin (.plain .lss) (.t 9) (.c (.s (.c (.int .i64 0)))), (some (7, false))⟩,
    ⟨(some 11), .pick (.t 7) (.c (.s (.c (.bool true)))) (.t 10), none⟩,
    ⟨(some 12), .mv (.t 11), none⟩,
    ⟨(some 13), .fld 2 (.t 1), (some (12, false))⟩,
    ⟨(some 14), .load 1 false (.t 13), (some (12, false))⟩,
    ⟨(some 15), .len true (.t 14), (some (12, false))⟩,
    ⟨(some 16), .bin (.plain .gtr) (.t 15) (.c (.s (.c (.int .i64 4096)))), (some (12, false))⟩,
    ⟨(some 17), .pick (.t 12) (.c (.s (.c (.bool true)))) (.t 16), none⟩] none)
  (.cond (.t 17) (.seq (.region [⟨(some 2), .mv (.c (.s (.c (.bool false)))), none⟩] none)
  (.ret))
  (.skip)))
  (.seq (.region [⟨(some 18), .load 4 true (.t 1), none⟩,
    ⟨(some 3), .alloc zVal, none⟩,
    ⟨none, .store 4 (.t 3) (.t 18), none⟩] none)
  (.seq (.seq (.region [⟨(some 19), .fld 0 (.t 1), none⟩,
    ⟨(some 20), .load 1 false (.t 19), none⟩] none)
  (.block 0 (.seq (.region [⟨(some 22), .bin (.plain .eql) (.t 20) (.c (.s (.c (.int .u8 2)))), none⟩,
    ⟨(some 21), .mv (.t 22), none⟩] none)
  (.cond (.t 21) (.seq (.region [⟨(some 23), .fld 1 (.t 3), none⟩,
    ⟨none, .store 1 (.t 23) (.c (.s (.c (.flt 0)))), none⟩] none)
  (.seq (.region [⟨(some 24), .fld 1 (.t 1), none⟩,
    ⟨(some 25), .load 1 false (.t 24), none⟩,
    ⟨(some 26), .bin (.plain .neq) (.t 25) (.c (.s (.c (.flt 4607182418800017408)))), none⟩,
    ⟨(some 27), .mv (.t 26), none⟩,
    ⟨(some 28), .fld 1 (.t 1), (some (27, true))⟩,
    ⟨(some 29), .load 1 false (.t 28), (some (27, true))⟩,
    ⟨(some 30), .bin (.plain .neq) (.t 29) (.c (.s (.c (.flt 0)))), (some (27, true))⟩,
    ⟨(some 31), .mv (.t 30), (some (27, true))⟩,
    ⟨(some 32), .fld 1 (.t 1), (some (31, false))⟩,
    ⟨(some 33), .load 1 false (.t 32), (some (31, false))⟩,
    ⟨(some 34), .call 73 [(.t 33)], (some (31, false))⟩,
    ⟨(some 35), .un .not (.t 34), (some (31, false))⟩,
    ⟨(some 36), .pick (.t 31) (.c (.s (.c (.bool true)))) (.t 35), (some (27, true))⟩,
    ⟨(some 37), .pick (.t 27) (.t 36) (.c (.s (.c (.bool false)))), none⟩] none)
  (.cond (.t 37) (.seq (.region [⟨(some 2), .mv (.c (.s (.c (.bool false)))), none⟩] none)
  (.ret))
  (.skip))))
  (.seq (.region [⟨(some 39), .bin (.plain .eql) (.t 20) (.c (.s (.c (.int .u8 3)))), none⟩,
    ⟨(some 38), .mv (.t 39), none⟩] none)
  (.cond (.t 38) (.seq (.region [⟨(some 40), .fld 1 (.t 3), none⟩,
    ⟨none, .store 1 (.t 40) (.c (.s (.c (.flt 0)))), none⟩] none)
  (.seq (.region [⟨(some 41), .fld 1 (.t 1), none⟩,
    ⟨(some 42), .load 1 false (.t 41), none⟩,
    ⟨(some 43), .call 73 [(.t 42)], none⟩,
    ⟨(some 44), .un .not (.t 43), none⟩] none)
  (.cond (.t 44) (.seq (.region [⟨(some 2), .mv (.c (.s (.c (.bool false)))), none⟩] none)
  (.ret))
  (.skip))))
  (.seq (.region [⟨(some 46), .bin (.plain .eql) (.t 20) (.c (.s (.c (.int .u8 4)))), none⟩,
    ⟨(some 45), .mv (.t 46), none⟩] none)
  (.cond (.t 45) (.region [⟨(some 47), .fld 2 (.t 3), none⟩,
    ⟨none, .store 1 (.t 47) (.c (.s (.c (.str ⟨#[]⟩)))), none⟩] none)
  (.seq (.seq (.region [⟨(some 49), .bin (.plain .eql) (.t 20) (.c (.s (.c (.int .u8 5)))), none⟩,
    ⟨(some 48), .mv (.t 49), none⟩] none)
  (.cond (.t 48) (.skip)
  (.seq (.region [⟨(some 50), .bin (.plain .eql) (.t 20) (.c (.s (.c (.int .u8 6)))), none⟩,
    ⟨(some 48), .mv (.t 50), none⟩] none)
  (.cond (.t 48) (.skip)
  (.seq (.region [⟨(some 51), .bin (.plain .eql) (.t 20) (.c (.s (.c (.int .u8 7)))), none⟩,
    ⟨(some 48), .mv (.t 51), none⟩] none)
  (.cond (.t 48) (.skip)
  (.region [⟨(some 52), .bin (.plain .eql) (.t 20) (.c (.s (.c (.int .u8 8)))), none⟩,
    ⟨(some 48), .mv (.t 52), none⟩] none)))))))
  (.cond (.t 48) (.region [⟨(some 53), .fld 3 (.t 3), none⟩,
    ⟨none, .store 1 (.t 53) (.c (.s (.c (.int .i64 0)))), none⟩] none)
  (.skip)))))))))))
  (.seq (.region [⟨(some 54), .load 4 true (.t 3), none⟩,
    ⟨(some 55), .fld 0 (.t 1), none⟩,
    ⟨(some 56), .load 1 false (.t 55), none⟩,
    ⟨(some 57), .build zVal [(0, 1, (.t 56))], none⟩,
    ⟨(some 58), .bin (.eqs [.int .u8, .flt, .str, .int .i64]) (.t 54) (.t 57), none⟩,
    ⟨(some 59), .mv (.t 58), none⟩,
    ⟨(some 60), .fld 1 (.t 3), (some (59, true))⟩,
    ⟨(some 61), .load 1 false (.t 60), (some (59, true))⟩,
    ⟨(some 62), .call 73 [(.t 61)], (some (59, true))⟩,
    ⟨(some 63), .pick (.t 59) (.t 62) (.c (.s (.c (.bool false)))), none⟩,
    ⟨(some 2), .mv (.t 63), none⟩] none)
  (.ret))))))
  [.tmp 2]
abbrev c_value_May : Nat := 67

/-- bailiff/desc.called -/
def L_desc_called : Fn := Fn.mk
  (.seq (.region [⟨(some 1), .box 4 (.t 0), none⟩,
    ⟨(some 2), .mv (.c (.s (.c (.bool false)))), none⟩] none)
  (.seq (.region [⟨(some 3), .load 4 true (.t 1), none⟩,
    ⟨(some 4), .call 67 [(.t 3)], none⟩,
    ⟨(some 5), .mv (.t 4), none⟩,
    ⟨(some 6), .fld 0 (.t 1), (some (5, true))⟩,
    ⟨(some 7), .load 1 false (.t 6), (some (5, true))⟩,
    ⟨(some 8), .bin (.plain .eql) (.t 7) (.c (.s (.c (.int .u8 0)))), (some (5, true))⟩,
    ⟨(some 9), .mv (.t 8), (some (5, true))⟩,
    ⟨(some 10), .load 4 true (.t 1), (some (9, false))⟩,
    ⟨(some 11), .call 74 [(.t 10)], (some (9, false))⟩,
    ⟨(some 12), .pick (.t 9) (.c (.s (.c (.bool true)))) (.t 11), (some (5, true))⟩,
    ⟨(some 13), .pick (.t 5) (.t 12) (.c (.s (.c (.bool false)))), none⟩,
    ⟨(some 2), .mv (.t 13), none⟩] none)
  (.ret)))
  [.tmp 2]
abbrev c_desc_called : Nat := 68

/-- bailiff/bailiffref07.nought -/
def L_bailiffref07_nought : Fn := Fn.mk
  (.seq (.region [⟨(some 2), .mv (.c (.s (.c (.bool false)))), none⟩] none)
  (.seq (.region [⟨(some 3), .mv (.t 0), none⟩,
    ⟨(some 4), .bin (.plain .eql) (.t 3) (.c (.s (.c (.flt 0)))), none⟩,
    ⟨(some 5), .mv (.t 4), none⟩,
    ⟨(some 6), .mv (.t 0), (some (5, true))⟩,
    ⟨(some 7), .bin (.plain .quo) (.c (.s (.c (.flt 4607182418800017408)))) (.t 6), (some (5, true))⟩,
    ⟨(some 8), .bin (.plain .gtr) (.t 7) (.c (.s (.c (.flt 0)))), (some (5, true))⟩,
    ⟨(some 9), .pick (.t 5) (.t 8) (.c (.s (.c (.bool false)))), none⟩,
    ⟨(some 2), .mv (.t 9), none⟩] none)
  (.ret)))
  [.tmp 2]
abbrev c_bailiffref07_nought : Nat := 69

/-- bailiff/bailiffref01.May -/
def L_bailiffref01_May : Fn := Fn.mk
  (.seq (.region [⟨(some 2), .mv (.c (.s (.c (.bool false)))), none⟩] none)
  (.seq (.region [⟨(some 6), .mv (.t 0), none⟩,
    ⟨(some 7), .call 75 [(.t 6)], none⟩,
    ⟨(some 5), .mv (.t 7), none⟩,
    ⟨(some 8), .extract (.t 5) 0, none⟩,
    ⟨(some 9), .extract (.t 5) 1, none⟩,
    ⟨(some 3), .mv (.t 8), none⟩,
    ⟨(some 4), .mv (.t 9), none⟩] none)
  (.seq (.region [⟨(some 10), .mv (.t 4), none⟩,
    ⟨(some 11), .mv (.t 10), none⟩,
    ⟨(some 12), .mv (.t 0), (some (11, false))⟩,
    ⟨(some 13), .mv (.t 0), (some (11, false))⟩,
    ⟨(some 14), .bin (.plain .neq) (.t 12) (.t 13), (some (11, false))⟩,
    ⟨(some 15), .pick (.t 11) (.c (.s (.c (.bool true)))) (.t 14), none⟩,
    ⟨(some 2), .mv (.t 15), none⟩] none)
  (.ret))))
  [.tmp 2]
abbrev c_bailiffref01_May : Nat := 70

/-- bailiff/bailiffref07.Calls -/
def L_bailiffref07_Calls : Fn := Fn.mk
  (.seq (.region [⟨(some 1), .box 4 (.t 0), none⟩,
    ⟨(some 2), .mv (.c (.s (.c (.bool false)))), none⟩] none)
  (.seq (.region [⟨(some 3), .fld 0 (.t 1), none⟩,
    ⟨(some 4), .load 1 false (.t 3), none⟩,
    ⟨(some 5), .bin (.plain .eql) (.t 4) (.c (.s (.c (.int .u8 7)))), none⟩,
    ⟨(some 6), .mv (.t 5), none⟩,
    ⟨(some 7), .fld 0 (.t 1), (some (6, false))⟩,
    ⟨(some 8), .load 1 false (.t 7), (some (6, false))⟩,
    ⟨(some 9), .bin (.plain .eql) (.t 8) (.c (.s (.c (.int .u8 8)))), (some (6, false))⟩,
    ⟨(some 10), .pick (.t 6) (.c (.s (.c (.bool true)))) (.t 9), none⟩,
    ⟨(some 2), .mv (.t 10), none⟩] none)
  (.ret)))
  [.tmp 2]
abbrev c_bailiffref07_Calls : Nat := 71

/-- sort.rotate_func -/
def L_sort_rotate_func : Fn := Fn.mk
  (.seq (.region [⟨(some 4), .box 2 (.t 0), none⟩] none)
  (.seq (.region [⟨(some 10), .mv (.t 2), none⟩,
    ⟨(some 11), .mv (.t 1), none⟩,
    ⟨(some 12), .bin (.plain .sub) (.t 10) (.t 11), none⟩,
    ⟨(some 8), .mv (.t 12), none⟩] none)
  (.seq (.region [⟨(some 13), .mv (.t 3), none⟩,
    ⟨(some 14), .mv (.t 2), none⟩,
    ⟨(some 15), .bin (.plain .sub) (.t 13) (.t 14), none⟩,
    ⟨(some 9), .mv (.t 15), none⟩] none)
  (.seq (.block 0 (.loop (.seq (.seq (.region [⟨(some 16), .mv (.t 8), none⟩,
    ⟨(some 17), .mv (.t 9), none⟩,
    ⟨(some 18), .bin (.plain .neq) (.t 16) (.t 17), none⟩] none)
  (.cond (.t 18) (.skip)
  (.exit 0)))
  (.block 1 (.seq (.region [⟨(some 19), .mv (.t 8), none⟩,
    ⟨(some 20), .mv (.t 9), none⟩,
    ⟨(some 21), .bin (.plain .gtr) (.t 19) (.t 20), none⟩] none)
  (.cond (.t 21) (.seq (.region [⟨(some 22), .load 2 true (.t 4), none⟩,
    ⟨(some 23), .mv (.t 2), none⟩,
    ⟨(some 24), .mv (.t 8), none⟩,
    ⟨(some 25), .bin (.plain .sub) (.t 23) (.t 24), none⟩,
    ⟨(some 26), .mv (.t 2), none⟩,
    ⟨(some 27), .mv (.t 9), none⟩,
    ⟨(some 28), .call 76 [(.t 22), (.t 25), (.t 26), (.t 27)], none⟩] none)
  (.region [⟨(some 29), .mv (.t 8), none⟩,
    ⟨(some 30), .mv (.t 9), none⟩,
    ⟨(some 31), .bin (.plain .sub) (.t 29) (.t 30), none⟩,
    ⟨(some 8), .mv (.t 31), none⟩] none))
  (.seq (.region [⟨(some 32), .load 2 true (.t 4), none⟩,
    ⟨(some 33), .mv (.t 2), none⟩,
    ⟨(some 34), .mv (.t 8), none⟩,
    ⟨(some 35), .bin (.plain .sub) (.t 33) (.t 34), none⟩,
    ⟨(some 36), .mv (.t 2), none⟩,
    ⟨(some 37), .mv (.t 9), none⟩,
    ⟨(some 38), .bin (.plain .add) (.t 36) (.t 37), none⟩,
    ⟨(some 39), .mv (.t 8), none⟩,
    ⟨(some 40), .bin (.plain .sub) (.t 38) (.t 39), none⟩,
    ⟨(some 41), .mv (.t 8), none⟩,
    ⟨(some 42), .call 76 [(.t 32), (.t 35), (.t 40), (.t 41)], none⟩] none)
  (.region [⟨(some 43), .mv (.t 9), none⟩,
    ⟨(some 44), .mv (.t 8), none⟩,
    ⟨(some 45), .bin (.plain .sub) (.t 43) (.t 44), none⟩,
    ⟨(some 9), .mv (.t 45), none⟩] none))))))))
  (.region [⟨(some 46), .load 2 true (.t 4), none⟩,
    ⟨(some 47), .mv (.t 2), none⟩,
    ⟨(some 48), .mv (.t 8), none⟩,
    ⟨(some 49), .bin (.plain .sub) (.t 47) (.t 48), none⟩,
    ⟨(some 50), .mv (.t 2), none⟩,
    ⟨(some 51), .mv (.t 8), none⟩,
    ⟨(some 52), .call 76 [(.t 46), (.t 49), (.t 50), (.t 51)], none⟩] none)))))
  []
abbrev c_sort_rotate_func : Nat := 72

/-- bailiff/num.May -/
def L_num_May : Fn := Fn.mk
  (.seq (.region [⟨(some 2), .mv (.c (.s (.c (.bool false)))), none⟩] none)
  (.seq (.region [⟨(some 3), .mv (.t 0), none⟩,
    ⟨(some 4), .mv (.t 0), none⟩,
    ⟨(some 5), .bin (.plain .neq) (.t 3) (.t 4), none⟩,
    ⟨(some 6), .mv (.t 5), none⟩,
    ⟨(some 7), .mv (.t 0), (some (6, false))⟩,
    ⟨(some 8), .call 77 [(.t 7)], (some (6, false))⟩,
    ⟨(some 9), .mv (.t 0), (some (6, false))⟩,
    ⟨(some 10), .bin (.plain .eql) (.t 8) (.t 9), (some (6, false))⟩,
    ⟨(some 11), .mv (.t 10), (some (6, false))⟩,
    ⟨(some 12), .mv (.t 0), (some (11, true))⟩,
    ⟨(some 13), .call 78 [(.t 12)], (some (11, true))⟩,
    ⟨(some 14), .bin (.plain .leq) (.t 13) (.c (.s (.c (.flt 4845873199050653695)))), (some (11, true))⟩,
    ⟨(some 15), .pick (.t 11) (.t 14) (.c (.s (.c (.bool false)))), (some (6, false))⟩,
    ⟨(some 16), .mv (.t 15), (some (6, false))⟩,
    ⟨(some 17), .mv (.t 0), (some (16, true))⟩,
    ⟨(some 18), .bin (.plain .neq) (.t 17) (.c (.s (.c (.flt 0)))), (some (16, true))⟩,
    ⟨(some 19), .mv (.t 18), (some (16, true))⟩,
    ⟨(some 20), .mv (.t 0), (some (19, false))⟩,
    ⟨(some 21), .call 79 [(.t 20)], (some (19, false))⟩,
    ⟨(some 22), .un .not (.t 21), (some (19, false))⟩,
    ⟨(some 23), .pick (.t 19) (.c (.s (.c (.bool true)))) (.t 22), (some (16, true))⟩,
    ⟨(some 24), .pick (.t 16) (.t 23) (.c (.s (.c (.bool false)))), (some (6, false))⟩,
    ⟨(some 25), .pick (.t 6) (.c (.s (.c (.bool true)))) (.t 24), none⟩,
    ⟨(some 2), .mv (.t 25), none⟩] none)
  (.ret)))
  [.tmp 2]
abbrev c_num_May : Nat := 73

/-- bailiff/value.Calls -/
def L_value_Calls : Fn := Fn.mk
  (.seq (.region [⟨(some 1), .box 4 (.t 0), none⟩,
    ⟨(some 2), .mv (.c (.s (.c (.bool false)))), none⟩] none)
  (.seq (.region [⟨(some 3), .fld 0 (.t 1), none⟩,
    ⟨(some 4), .load 1 false (.t 3), none⟩,
    ⟨(some 5), .bin (.plain .eql) (.t 4) (.c (.s (.c (.int .u8 7)))), none⟩,
    ⟨(some 6), .mv (.t 5), none⟩,
    ⟨(some 7), .fld 0 (.t 1), (some (6, false))⟩,
    ⟨(some 8), .load 1 false (.t 7), (some (6, false))⟩,
    ⟨(some 9), .bin (.plain .eql) (.t 8) (.c (.s (.c (.int .u8 8)))), (some (6, false))⟩,
    ⟨(some 10), .pick (.t 6) (.c (.s (.c (.bool true)))) (.t 9), none⟩,
    ⟨(some 2), .mv (.t 10), none⟩] none)
  (.ret)))
  [.tmp 2]
abbrev c_value_Calls : Nat := 74

/-- bailiff/bailiffref01.whole -/
def L_bailiffref01_whole : Fn := Fn.mk
  (.seq (.region [⟨(some 2), .mv (.c (.s (.c (.int .i64 0)))), none⟩,
    ⟨(some 3), .mv (.c (.s (.c (.bool false)))), none⟩] none)
  (.seq (.seq (.region [⟨(some 5), .mv (.t 0), none⟩,
    ⟨(some 6), .bin (.plain .geq) (.t 5) (.c (.s (.c (.flt 14069245235905429503)))), none⟩,
    ⟨(some 7), .mv (.t 6), none⟩,
    ⟨(some 8), .mv (.t 0), (some (7, true))⟩,
    ⟨(some 9), .bin (.plain .leq) (.t 8) (.c (.s (.c (.flt 4845873199050653695)))), (some (7, true))⟩,
    ⟨(some 10), .pick (.t 7) (.t 9) (.c (.s (.c (.bool false)))), none⟩,
    ⟨(some 11), .un .not (.t 10), none⟩] none)
  (.cond (.t 11) (.seq (.region [⟨(some 2), .mv (.c (.s (.c (.int .i64 0)))), none⟩,
    ⟨(some 3), .mv (.c (.s (.c (.bool false)))), none⟩] none)
  (.ret))
  (.skip)))
  (.seq (.region [⟨(some 12), .mv (.t 0), none⟩,
    ⟨(some 13), .conv (.toInt .i64) (.t 12), none⟩,
    ⟨(some 4), .mv (.t 13), none⟩] none)
  (.seq (.seq (.region [⟨(some 14), .mv (.t 4), none⟩,
    ⟨(some 15), .conv .toFlt (.t 14), none⟩,
    ⟨(some 16), .mv (.t 0), none⟩,
    ⟨(some 17), .bin (.plain .neq) (.t 15) (.t 16), none⟩,
    ⟨(some 18), .mv (.t 17), none⟩,
    ⟨(some 19), .mv (.t 0), (some (18, false))⟩,
    ⟨(some 20), .bin (.plain .eql) (.t 19) (.c (.s (.c (.flt 0)))), (some (18, false))⟩,
    ⟨(some 21), .mv (.t 20), (some (18, false))⟩,
    ⟨(some 22), .mv (.t 0), (some (21, true))⟩,
    ⟨(some 23), .bin (.plain .quo) (.c (.s (.c (.flt 4607182418800017408)))) (.t 22), (some (21, true))⟩,
    ⟨(some 24), .bin (.plain .lss) (.t 23) (.c (.s (.c (.flt 0)))), (some (21, true))⟩,
    ⟨(some 25), .pick (.t 21) (.t 24) (.c (.s (.c (.bool false)))), (some (18, false))⟩,
    ⟨(some 26), .pick (.t 18) (.c (.s (.c (.bool true)))) (.t 25), none⟩] none)
  (.cond (.t 26) (.seq (.region [⟨(some 2), .mv (.c (.s (.c (.int .i64 0)))), none⟩,
    ⟨(some 3), .mv (.c (.s (.c (.bool false)))), none⟩] none)
  (.ret))
  (.skip)))
  (.seq (.region [⟨(some 27), .mv (.t 4), none⟩,
    ⟨(some 2), .mv (.t 27), none⟩,
    ⟨(some 3), .mv (.c (.s (.c (.bool true)))), none⟩] none)
  (.ret))))))
  [.tmp 2, .tmp 3]
abbrev c_bailiffref01_whole : Nat := 75

/-- sort.swapRange_func -/
def L_sort_swapRange_func : Fn := Fn.mk
  (.seq (.region [⟨(some 4), .box 2 (.t 0), none⟩] none)
  (.seq (.region [⟨(some 8), .mv (.c (.s (.c (.int .i64 0)))), none⟩] none)
  (.block 0 (.loop (.seq (.seq (.region [⟨(some 9), .mv (.t 8), none⟩,
    ⟨(some 10), .mv (.t 3), none⟩,
    ⟨(some 11), .bin (.plain .lss) (.t 9) (.t 10), none⟩] none)
  (.cond (.t 11) (.skip)
  (.exit 0)))
  (.seq (.block 1 (.region [⟨(some 14), .fld 1 (.t 4), none⟩,
    ⟨(some 15), .load 1 false (.t 14), none⟩,
    ⟨(some 16), .mv (.t 1), none⟩,
    ⟨(some 17), .mv (.t 8), none⟩,
    ⟨(some 18), .bin (.plain .add) (.t 16) (.t 17), none⟩,
    ⟨(some 19), .mv (.t 2), none⟩,
    ⟨(some 20), .mv (.t 8), none⟩,
    ⟨(some 21), .bin (.plain .add) (.t 19) (.t 20), none⟩,
    ⟨(some 22), .callv (.t 15) [(.t 18), (.t 21)], none⟩] none))
  (.region [⟨(some 12), .mv (.t 8), none⟩,
    ⟨(some 13), .bin (.plain .add) (.t 12) (.c (.s (.c (.int .i64 1)))), none⟩,
    ⟨(some 8), .mv (.t 13), none⟩] none)))))))
  []
abbrev c_sort_swapRange_func : Nat := 76

/-- math.Trunc -/
def L_math_Trunc : Fn := Fn.mk
  (.seq (.region [⟨(some 2), .mv (.c (.s (.c (.flt 0)))), none⟩] none)
  (.seq (.cond (.c (.s (.c (.bool true)))) (.seq (.region [⟨(some 3), .mv (.t 0), none⟩,
    ⟨(some 4), .call 80 [(.t 3)], none⟩,
    ⟨(some 2), .mv (.t 4), none⟩] none)
  (.ret))
  (.skip))
  (.seq (.region [⟨(some 5), .mv (.t 0), none⟩,
    ⟨(some 6), .call 81 [(.t 5)], none⟩,
    ⟨(some 2), .mv (.t 6), none⟩] none)
  (.ret))))
  [.tmp 2]
abbrev c_math_Trunc : Nat := 77

/-- math.Abs -/
def L_math_Abs : Fn := Fn.mk
  (.seq (.region [⟨(some 2), .mv (.c (.s (.c (.flt 0)))), none⟩] none)
  (.seq (.region [⟨(some 3), .mv (.t 0), none⟩,
    ⟨(some 4), .call 82 [(.t 3)], none⟩,
    ⟨(some 5), .bin (.plain .andNot) (.t 4) (.c (.s (.c (.int .u64 9223372036854775808)))), none⟩,
    ⟨(some 6), .call 83 [(.t 5)], none⟩,
    ⟨(some 2), .mv (.t 6), none⟩] none)
  (.ret)))
  [.tmp 2]
abbrev c_math_Abs : Nat := 78

/-- math.Signbit -/
def L_math_Signbit : Fn := Fn.mk
  (.seq (.region [⟨(some 2), .mv (.c (.s (.c (.bool false)))), none⟩] none)
  (.seq (.region [⟨(some 3), .mv (.t 0), none⟩,
    ⟨(some 4), .call 82 [(.t 3)], none⟩,
    ⟨(some 5), .conv (.int .i64) (.t 4), none⟩,
    ⟨(some 6), .bin (.plain .lss) (.t 5) (.c (.s (.c (.int .i64 0)))), none⟩,
    ⟨(some 2), .mv (.t 6), none⟩] none)
  (.ret)))
  [.tmp 2]
abbrev c_math_Signbit : Nat := 79

/-- math.trunc -/
def L_math_trunc : Fn := Fn.mk
  (.seq (.region [⟨(some 2), .mv (.c (.s (.c (.flt 0)))), none⟩] none)
  (.seq (.seq (.region [⟨(some 5), .mv (.t 0), none⟩,
    ⟨(some 6), .call 78 [(.t 5)], none⟩,
    ⟨(some 7), .bin (.plain .lss) (.t 6) (.c (.s (.c (.flt 4607182418800017408)))), none⟩] none)
  (.cond (.t 7) (.seq (.region [⟨(some 8), .mv (.t 0), none⟩,
    ⟨(some 9), .call 84 [(.c (.s (.c (.flt 0)))), (.t 8)], none⟩,
    ⟨(some 2), .mv (.t 9), none⟩] none)
  (.ret))
  (.skip)))
  (.seq (.region [⟨(some 10), .mv (.t 0), none⟩,
    ⟨(some 11), .call 82 [(.t 10)], none⟩,
    ⟨(some 3), .mv (.t 11), none⟩] none)
  (.seq (.region [⟨(some 12), .mv (.t 3), none⟩,
    ⟨(some 13), .bin (.plain .shr) (.t 12) (.c (.s (.c (.int .u64 52)))), none⟩,
    ⟨(some 14), .bin (.plain .and) (.t 13) (.c (.s (.c (.int .u64 2047)))), none⟩,
    ⟨(some 15), .bin (.plain .sub) (.t 14) (.c (.s (.c (.int .u64 1023)))), none⟩,
    ⟨(some 4), .mv (.t 15), none⟩] none)
  (.seq (.seq (.region [⟨(some 16), .mv (.t 4), none⟩,
    ⟨(some 17), .bin (.plain .lss) (.t 16) (.c (.s (.c (.int .u64 52)))), none⟩] none)
  (.cond (.t 17) (.region [⟨(some 18), .mv (.t 3), none⟩,
    ⟨(some 19), .mv (.t 4), none⟩,
    ⟨(some 20), .bin (.plain .sub) (.c (.s (.c (.int .u64 52)))) (.t 19), none⟩,
    ⟨(some 21), .bin (.plain .shl) (.c (.s (.c (.int .u64 1)))) (.t 20), none⟩,
    ⟨(some 22), .bin (.plain .sub) (.t 21) (.c (.s (.c (.int .u64 1)))), none⟩,
    ⟨(some 23), .bin (.plain .andNot) (.t 18) (.t 22), none⟩,
    ⟨(some 3), .mv (.t 23), none⟩] none)
  (.skip)))
  (.seq (.region [⟨(some 24), .mv (.t 3), none⟩,
    ⟨(some 25), .call 83 [(.t 24)], none⟩,
    ⟨(some 2), .mv (.t 25), none⟩] none)
  (.ret)))))))
  [.tmp 2]
abbrev c_math_trunc : Nat := 81

/-- math.Copysign -/
def L_math_Copysign : Fn := Fn.mk
  (.seq (.region [⟨(some 4), .mv (.c (.s (.c (.flt 0)))), none⟩] none)
  (.seq (.region [⟨(some 5), .mv (.t 0), none⟩,
    ⟨(some 6), .call 82 [(.t 5)], none⟩,
    ⟨(some 7), .bin (.plain .andNot) (.t 6) (.c (.s (.c (.int .u64 9223372036854775808)))), none⟩,
    ⟨(some 8), .mv (.t 1), none⟩,
    ⟨(some 9), .call 82 [(.t 8)], none⟩,
    ⟨(some 10), .bin (.plain .and) (.t 9) (.c (.s (.c (.int .u64 9223372036854775808)))), none⟩,
    ⟨(some 11), .bin (.plain .or) (.t 7) (.t 10), none⟩,
    ⟨(some 12), .call 83 [(.t 11)], none⟩,
    ⟨(some 4), .mv (.t 12), none⟩] none)
  (.ret)))
  [.tmp 4]
abbrev c_math_Copysign : Nat := 84

/-- bailiff/bailifflaw08.KeyOnes -/
def L_bailifflaw08_KeyOnes : Fn := Fn.mk
  (.seq (.region [⟨(some 3), .box 2 (.t 0), none⟩,
    ⟨(some 5), .box 4 (.t 2), none⟩,
    ⟨(some 6), .mv (.c (.s (.c (.bool false)))), none⟩] none)
  (.seq (.seq (.region [⟨(some 17), .fld 0 (.t 3), none⟩,
    ⟨(some 18), .load 1 false (.t 17), none⟩,
    ⟨(some 19), .len true (.t 18), none⟩,
    ⟨(some 20), .bin (.plain .gtr) (.t 19) (.c (.s (.c (.int .i64 9000)))), none⟩,
    ⟨(some 21), .mv (.t 20), none⟩,
    ⟨(some 22), .fld 2 (.t 5), (some (21, false))⟩,
    ⟨(some 23), .load 1 false (.t 22), (some (21, false))⟩,
    ⟨(some 24), .len true (.t 23), (some (21, false))⟩,
    ⟨(some 25), .bin (.plain .gtr) (.t 24) (.c (.s (.c (.int .i64 9000)))), (some (21, false))⟩,
    ⟨(some 26), .pick (.t 21) (.c (.s (.c (.bool true)))) (.t 25), none⟩] none)
  (.cond (.t 26) (.seq (.region [⟨(some 6), .mv (.c (.s (.c (.bool true)))), none⟩] none)
  (.ret))
  (.skip)))
  (.seq (.region [⟨(some 28), .load 4 true (.t 5), none⟩,
    ⟨(some 29), .call 200 [(.t 28)], none⟩,
    ⟨(some 27), .mv (.t 29), none⟩,
    ⟨(some 30), .extract (.t 27) 0, none⟩,
    ⟨(some 31), .extract (.t 27) 1, none⟩,
    ⟨(some 7), .alloc zKey, none⟩,
    ⟨none, .store 2 (.t 7) (.t 30), none⟩,
    ⟨(some 8), .mv (.t 31), none⟩] none)
  (.seq (.region [⟨(some 33), .load 4 true (.t 5), none⟩,
    ⟨(some 34), .call 201 [(.t 33)], none⟩,
    ⟨(some 32), .mv (.t 34), none⟩,
    ⟨(some 35), .extract (.t 32) 0, none⟩,
    ⟨(some 36), .extract (.t 32) 1, none⟩,
    ⟨(some 9), .alloc zKey, none⟩,
    ⟨none, .store 2 (.t 9) (.t 35), none⟩,
    ⟨(some 10), .mv (.t 36), none⟩] none)
  (.seq (.region [⟨(some 38), .load 2 true (.t 3), none⟩,
    ⟨(some 39), .call 49 [(.t 38)], none⟩,
    ⟨(some 37), .mv (.t 39), none⟩,
    ⟨(some 40), .extract (.t 37) 0, none⟩,
    ⟨(some 41), .extract (.t 37) 1, none⟩,
    ⟨(some 11), .mv (.t 40), none⟩,
    ⟨(some 12), .mv (.t 41), none⟩] none)
  (.seq (.region [⟨(some 43), .load 2 true (.t 3), none⟩,
    ⟨(some 44), .call 41 [(.t 43)], none⟩,
    ⟨(some 42), .mv (.t 44), none⟩,
    ⟨(some 45), .extract (.t 42) 0, none⟩,
    ⟨(some 46), .extract (.t 42) 1, none⟩,
    ⟨(some 13), .mv (.t 45), none⟩,
    ⟨(some 14), .mv (.t 46), none⟩] none)
  (.seq (.region [⟨(some 47), .load 2 true (.t 7), none⟩,
    ⟨(some 48), .load 2 true (.t 9), none⟩,
    ⟨(some 49), .bin (.eqs [.str, .int .i64]) (.t 47) (.t 48), none⟩,
    ⟨(some 50), .mv (.t 49), none⟩,
    ⟨(some 51), .mv (.t 8), (some (50, true))⟩,
    ⟨(some 52), .mv (.t 10), (some (50, true))⟩,
    ⟨(some 53), .bin (.plain .eql) (.t 51) (.t 52), (some (50, true))⟩,
    ⟨(some 54), .pick (.t 50) (.t 53) (.c (.s (.c (.bool false)))), none⟩,
    ⟨(some 55), .mv (.t 54), none⟩,
    ⟨(some 56), .mv (.t 11), (some (55, true))⟩,
    ⟨(some 57), .mv (.t 13), (some (55, true))⟩,
    ⟨(some 58), .bin (.plain .eql) (.t 56) (.t 57), (some (55, true))⟩,
    ⟨(some 59), .pick (.t 55) (.t 58) (.c (.s (.c (.bool false)))), none⟩,
    ⟨(some 60), .mv (.t 59), none⟩,
    ⟨(some 61), .mv (.t 12), (some (60, true))⟩,
    ⟨(some 62), .mv (.t 14), (some (60, true))⟩,
    ⟨(some 63), .bin (.eqb true) (.t 61) (.t 62), (some (60, true))⟩,
    ⟨(some 64), .pick (.t 60) (.t 63) (.c (.s (.c (.bool false)))), none⟩,
    ⟨(some 65), .mv (.t 64), none⟩,
    ⟨(some 66), .load 2 true (.t 3), (some (65, true))⟩,
    ⟨(some 67), .call 32 [(.t 66)], (some (65, true))⟩,
    ⟨(some 68), .load 2 true (.t 3), (some (65, true))⟩,
    ⟨(some 69), .call 42 [(.t 68)], (some (65, true))⟩,
    ⟨(some 70), .bin (.plain .eql) (.t 67) (.t 69), (some (65, true))⟩,
    ⟨(some 71), .pick (.t 65) (.t 70) (.c (.s (.c (.bool false)))), none⟩,
    ⟨(some 15), .mv (.t 71), none⟩] (some (26, [])))
  (.seq (.region [⟨(some 72), .fld 0 (.t 3), none⟩,
    ⟨(some 73), .load 1 false (.t 72), none⟩,
    ⟨(some 74), .call 30 [(.t 73)], none⟩,
    ⟨(some 75), .fld 0 (.t 3), none⟩,
    ⟨(some 76), .load 1 false (.t 75), none⟩,
    ⟨(some 77), .build zKey [(0, 1, (.t 76))], none⟩,
    ⟨(some 78), .bin (.eqs [.str, .int .i64]) (.t 74) (.t 77), none⟩,
    ⟨(some 79), .mv (.t 78), none⟩,
    ⟨(some 80), .mv (.t 1), (some (79, true))⟩,
    ⟨(some 81), .call 27 [(.t 80)], (some (79, true))⟩,
    ⟨(some 82), .mv (.t 1), (some (79, true))⟩,
    ⟨(some 83), .call 202 [(.t 82)], (some (79, true))⟩,
    ⟨(some 84), .bin (.eqs [.str, .int .i64]) (.t 81) (.t 83), (some (79, true))⟩,
    ⟨(some 85), .pick (.t 79) (.t 84) (.c (.s (.c (.bool false)))), none⟩,
    ⟨(some 86), .mv (.t 85), none⟩,
    ⟨(some 87), .mv (.t 1), (some (86, true))⟩,
    ⟨(some 88), .call 203 [(.t 87)], (some (86, true))⟩,
    ⟨(some 89), .mv (.t 1), (some (86, true))⟩,
    ⟨(some 90), .call 204 [(.t 89)], (some (86, true))⟩,
    ⟨(some 91), .bin (.eqs [.str, .int .i64]) (.t 88) (.t 90), (some (86, true))⟩,
    ⟨(some 92), .pick (.t 86) (.t 91) (.c (.s (.c (.bool false)))), none⟩,
    ⟨(some 16), .mv (.t 92), none⟩] (some (22, [])))
  (.seq (.region [⟨(some 93), .mv (.t 15), none⟩,
    ⟨(some 94), .mv (.t 93), none⟩,
    ⟨(some 95), .mv (.t 16), (some (94, true))⟩,
    ⟨(some 96), .pick (.t 94) (.t 95) (.c (.s (.c (.bool false)))), none⟩,
    ⟨(some 97), .mv (.t 96), none⟩,
    ⟨(some 98), .load 2 true (.t 3), (some (97, true))⟩,
    ⟨(some 99), .call 205 [(.t 98)], (some (97, true))⟩,
    ⟨(some 100), .load 2 true (.t 3), (some (97, true))⟩,
    ⟨(some 101), .call 206 [(.t 100)], (some (97, true))⟩,
    ⟨(some 102), .call 44 [(.t 99), (.t 101)], (some (97, true))⟩,
    ⟨(some 103), .pick (.t 97) (.t 102) (.c (.s (.c (.bool false)))), none⟩,
    ⟨(some 104), .mv (.t 103), none⟩,
    ⟨(some 105), .load 2 true (.t 3), (some (104, true))⟩,
    ⟨(some 106), .call 207 [(.t 105)], (some (104, true))⟩,
    ⟨(some 107), .load 2 true (.t 3), (some (104, true))⟩,
    ⟨(some 108), .call 208 [(.t 107)], (some (104, true))⟩,
    ⟨(some 109), .bin (.plain .eql) (.t 106) (.t 108), (some (104, true))⟩,
    ⟨(some 110), .pick (.t 104) (.t 109) (.c (.s (.c (.bool false)))), none⟩,
    ⟨(some 6), .mv (.t 110), none⟩] (some (19, [])))
  (.ret))))))))))
  [.tmp 6]
abbrev c_bailifflaw08_KeyOnes : Nat := 236

/-- bailiff/bailifflaw08.KeyRow -/
def L_bailifflaw08_KeyRow : Fn := Fn.mk
  (.seq (.region [⟨(some 2), .mv (.c (.s (.c (.bool false)))), none⟩] none)
  (.seq (.region [⟨(some 15), .call 209 [], none⟩,
    ⟨(some 3), .mv (.t 15), none⟩] none)
  (.seq (.seq (.region [⟨(some 16), .mv (.t 0), none⟩,
    ⟨(some 17), .len false (.t 16), none⟩,
    ⟨(some 18), .bin (.plain .gtr) (.t 17) (.c (.s (.c (.int .i64 200)))), none⟩,
    ⟨(some 19), .mv (.t 18), none⟩,
    ⟨(some 20), .mv (.t 3), (some (19, false))⟩,
    ⟨(some 21), .un .not (.t 20), (some (19, false))⟩,
    ⟨(some 22), .pick (.t 19) (.c (.s (.c (.bool true)))) (.t 21), none⟩] none)
  (.cond (.t 22) (.seq (.region [⟨(some 23), .mv (.t 3), none⟩,
    ⟨(some 2), .mv (.t 23), none⟩] none)
  (.ret))
  (.skip)))
  (.seq (.region [⟨(some 24), .mv (.t 0), none⟩,
    ⟨(some 25), .call 10 [(.t 24)], none⟩,
    ⟨(some 4), .mv (.t 25), none⟩] none)
  (.seq (.region [⟨(some 26), .mv (.t 4), none⟩,
    ⟨(some 27), .call 10 [(.t 26)], none⟩,
    ⟨(some 5), .mv (.t 27), none⟩] none)
  (.seq (.seq (.region [⟨(some 28), .mv (.t 4), none⟩,
    ⟨(some 29), .len false (.t 28), none⟩,
    ⟨(some 30), .mv (.t 0), none⟩,
    ⟨(some 31), .len false (.t 30), none⟩,
    ⟨(some 32), .bin (.plain .neq) (.t 29) (.t 31), none⟩,
    ⟨(some 33), .mv (.t 32), none⟩,
    ⟨(some 34), .mv (.t 5), (some (33, false))⟩,
    ⟨(some 35), .len false (.t 34), (some (33, false))⟩,
    ⟨(some 36), .mv (.t 4), (some (33, false))⟩,
    ⟨(some 37), .len false (.t 36), (some (33, false))⟩,
    ⟨(some 38), .bin (.plain .neq) (.t 35) (.t 37), (some (33, false))⟩,
    ⟨(some 39), .pick (.t 33) (.c (.s (.c (.bool true)))) (.t 38), none⟩] none)
  (.cond (.t 39) (.seq (.region [⟨(some 2), .mv (.c (.s (.c (.bool false)))), none⟩] none)
  (.ret))
  (.skip)))
  (.seq (.seq (.region [⟨(some 6), .mv (.c (.s (.c (.int .i64 0)))), none⟩] none)
  (.block 0 (.loop (.seq (.seq (.region [⟨(some 40), .mv (.t 6), none⟩,
    ⟨(some 41), .mv (.t 4), none⟩,
    ⟨(some 42), .len false (.t 41), none⟩,
    ⟨(some 43), .bin (.plain .lss) (.t 40) (.t 42), none⟩] none)
  (.cond (.t 43) (.skip)
  (.exit 0)))
  (.seq (.block 1 (.seq (.seq (.region [⟨(some 46), .mv (.t 5), none⟩,
    ⟨(some 47), .mv (.t 6), none⟩,
    ⟨(some 48), .idxA 2 (.t 46) (.t 47), none⟩,
    ⟨(some 49), .load 2 true (.t 48), none⟩,
    ⟨(some 50), .mv (.t 4), none⟩,
    ⟨(some 51), .mv (.t 6), none⟩,
    ⟨(some 52), .idxA 2 (.t 50) (.t 51), none⟩,
    ⟨(some 53), .load 2 true (.t 52), none⟩,
    ⟨(some 54), .bin (.neqs [.str, .int .i64]) (.t 49) (.t 53), none⟩,
    ⟨(some 55), .mv (.t 54), none⟩,
    ⟨(some 56), .mv (.t 0), (some (55, false))⟩,
    ⟨(some 57), .mv (.t 4), (some (55, false))⟩,
    ⟨(some 58), .mv (.t 6), (some (55, false))⟩,
    ⟨(some 59), .idxA 2 (.t 57) (.t 58), (some (55, false))⟩,
    ⟨(some 60), .load 2 true (.t 59), (some (55, false))⟩,
    ⟨(some 61), .call 210 [(.t 56), (.t 60)], (some (55, false))⟩,
    ⟨(some 62), .mv (.t 4), (some (55, false))⟩,
    ⟨(some 63), .mv (.t 4), (some (55, false))⟩,
    ⟨(some 64), .mv (.t 6), (some (55, false))⟩,
    ⟨(some 65), .idxA 2 (.t 63) (.t 64), (some (55, false))⟩,
    ⟨(some 66), .load 2 true (.t 65), (some (55, false))⟩,
    ⟨(some 67), .call 210 [(.t 62), (.t 66)], (some (55, false))⟩,
    ⟨(some 68), .bin (.plain .neq) (.t 61) (.t 67), (some (55, false))⟩,
    ⟨(some 69), .pick (.t 55) (.c (.s (.c (.bool true)))) (.t 68), none⟩] (some (24, [])))
  (.cond (.t 69) (.seq (.region [⟨(some 2), .mv (.c (.s (.c (.bool false)))), none⟩] none)
  (.ret))
  (.skip)))
  (.seq (.seq (.region [⟨(some 70), .mv (.t 6), none⟩,
    ⟨(some 71), .bin (.plain .eql) (.t 70) (.c (.s (.c (.int .i64 0)))), none⟩] none)
  (.cond (.t 71) (.exit 1)
  (.skip)))
  (.seq (.region [⟨(some 72), .mv (.t 4), none⟩,
    ⟨(some 73), .mv (.t 6), none⟩,
    ⟨(some 74), .bin (.plain .sub) (.t 73) (.c (.s (.c (.int .i64 1)))), none⟩,
    ⟨(some 75), .idxA 2 (.t 72) (.t 74), none⟩,
    ⟨(some 76), .load 2 true (.t 75), none⟩,
    ⟨(some 77), .call 211 [(.t 76)], none⟩,
    ⟨(some 7), .mv (.t 77), none⟩] none)
  (.seq (.region [⟨(some 78), .mv (.t 4), none⟩,
    ⟨(some 79), .mv (.t 6), none⟩,
    ⟨(some 80), .idxA 2 (.t 78) (.t 79), none⟩,
    ⟨(some 81), .load 2 true (.t 80), none⟩,
    ⟨(some 82), .call 211 [(.t 81)], none⟩,
    ⟨(some 8), .mv (.t 82), none⟩] none)
  (.seq (.region [⟨(some 84), .mv (.t 4), none⟩,
    ⟨(some 85), .mv (.t 6), none⟩,
    ⟨(some 86), .bin (.plain .sub) (.t 85) (.c (.s (.c (.int .i64 1)))), none⟩,
    ⟨(some 87), .idxA 2 (.t 84) (.t 86), none⟩,
    ⟨(some 88), .load 2 true (.t 87), none⟩,
    ⟨(some 89), .call 49 [(.t 88)], none⟩,
    ⟨(some 83), .mv (.t 89), none⟩,
    ⟨(some 90), .extract (.t 83) 0, none⟩,
    ⟨(some 91), .extract (.t 83) 1, none⟩,
    ⟨(some 9), .mv (.t 90), none⟩,
    ⟨(some 10), .mv (.t 91), none⟩] none)
  (.seq (.region [⟨(some 93), .mv (.t 4), none⟩,
    ⟨(some 94), .mv (.t 6), none⟩,
    ⟨(some 95), .idxA 2 (.t 93) (.t 94), none⟩,
    ⟨(some 96), .load 2 true (.t 95), none⟩,
    ⟨(some 97), .call 49 [(.t 96)], none⟩,
    ⟨(some 92), .mv (.t 97), none⟩,
    ⟨(some 98), .extract (.t 92) 0, none⟩,
    ⟨(some 99), .extract (.t 92) 1, none⟩,
    ⟨(some 11), .mv (.t 98), none⟩,
    ⟨(some 12), .mv (.t 99), none⟩] none)
  (.seq (.region [⟨(some 100), .mv (.t 7), none⟩,
    ⟨(some 101), .mv (.t 8), none⟩,
    ⟨(some 102), .bin (.plain .gtr) (.t 100) (.t 101), none⟩,
    ⟨(some 103), .mv (.t 102), none⟩,
    ⟨(some 104), .mv (.t 7), (some (103, false))⟩,
    ⟨(some 105), .bin (.plain .eql) (.t 104) (.c (.s (.c (.int .i64 0)))), (some (103, false))⟩,
    ⟨(some 106), .mv (.t 105), (some (103, false))⟩,
    ⟨(some 107), .mv (.t 8), (some (106, true))⟩,
    ⟨(some 108), .bin (.plain .eql) (.t 107) (.c (.s (.c (.int .i64 0)))), (some (106, true))⟩,
    ⟨(some 109), .pick (.t 106) (.t 108) (.c (.s (.c (.bool false)))), (some (103, false))⟩,
    ⟨(some 110), .mv (.t 109), (some (103, false))⟩,
    ⟨(some 111), .mv (.t 9), (some (110, true))⟩,
    ⟨(some 112), .mv (.t 11), (some (110, true))⟩,
    ⟨(some 113), .bin (.plain .gtr) (.t 111) (.t 112), (some (110, true))⟩,
    ⟨(some 114), .pick (.t 110) (.t 113) (.c (.s (.c (.bool false)))), (some (103, false))⟩,
    ⟨(some 115), .pick (.t 103) (.c (.s (.c (.bool true)))) (.t 114), none⟩] none)
  (.cond (.t 115) (.seq (.region [⟨(some 2), .mv (.c (.s (.c (.bool false)))), none⟩] none)
  (.ret))
  (.skip))))))))))
  (.region [⟨(some 44), .mv (.t 6), none⟩,
    ⟨(some 45), .bin (.plain .add) (.t 44) (.c (.s (.c (.int .i64 1)))), none⟩,
    ⟨(some 6), .mv (.t 45), none⟩] none))))))
  (.seq (.region [⟨(some 13), .mv (.c (.s (.c (.int .i64 0)))), none⟩] none)
  (.seq (.seq (.region [⟨(some 14), .mv (.c (.s (.c (.int .i64 0)))), none⟩] none)
  (.block 2 (.loop (.seq (.seq (.region [⟨(some 116), .mv (.t 14), none⟩,
    ⟨(some 117), .mv (.t 0), none⟩,
    ⟨(some 118), .len false (.t 117), none⟩,
    ⟨(some 119), .bin (.plain .lss) (.t 116) (.t 118), none⟩] none)
  (.cond (.t 119) (.skip)
  (.exit 2)))
  (.seq (.block 3 (.seq (.seq (.region [⟨(some 122), .mv (.t 0), none⟩,
    ⟨(some 123), .mv (.t 14), none⟩,
    ⟨(some 124), .idxA 2 (.t 122) (.t 123), none⟩,
    ⟨(some 125), .load 2 true (.t 124), none⟩,
    ⟨(some 126), .call 211 [(.t 125)], none⟩,
    ⟨(some 127), .bin (.plain .neq) (.t 126) (.c (.s (.c (.int .i64 1)))), none⟩] none)
  (.cond (.t 127) (.exit 3)
  (.skip)))
  (.seq (.block 4 (.loop (.seq (.seq (.region [⟨(some 128), .mv (.t 13), none⟩,
    ⟨(some 129), .mv (.t 4), none⟩,
    ⟨(some 130), .len false (.t 129), none⟩,
    ⟨(some 131), .bin (.plain .lss) (.t 128) (.t 130), none⟩,
    ⟨(some 132), .mv (.t 131), none⟩,
    ⟨(some 133), .mv (.t 4), (some (132, true))⟩,
    ⟨(some 134), .mv (.t 13), (some (132, true))⟩,
    ⟨(some 135), .idxA 2 (.t 133) (.t 134), (some (132, true))⟩,
    ⟨(some 136), .load 2 true (.t 135), (some (132, true))⟩,
    ⟨(some 137), .call 211 [(.t 136)], (some (132, true))⟩,
    ⟨(some 138), .bin (.plain .neq) (.t 137) (.c (.s (.c (.int .i64 1)))), (some (132, true))⟩,
    ⟨(some 139), .pick (.t 132) (.t 138) (.c (.s (.c (.bool false)))), none⟩] none)
  (.cond (.t 139) (.skip)
  (.exit 4)))
  (.block 5 (.region [⟨(some 140), .mv (.t 13), none⟩,
    ⟨(some 141), .bin (.plain .add) (.t 140) (.c (.s (.c (.int .i64 1)))), none⟩,
    ⟨(some 13), .mv (.t 141), none⟩] none)))))
  (.seq (.seq (.region [⟨(some 142), .mv (.t 13), none⟩,
    ⟨(some 143), .mv (.t 4), none⟩,
    ⟨(some 144), .len false (.t 143), none⟩,
    ⟨(some 145), .bin (.plain .geq) (.t 142) (.t 144), none⟩,
    ⟨(some 146), .mv (.t 145), none⟩,
    ⟨(some 147), .mv (.t 4), (some (146, false))⟩,
    ⟨(some 148), .mv (.t 13), (some (146, false))⟩,
    ⟨(some 149), .idxA 2 (.t 147) (.t 148), (some (146, false))⟩,
    ⟨(some 150), .load 2 true (.t 149), (some (146, false))⟩,
    ⟨(some 151), .mv (.t 0), (some (146, false))⟩,
    ⟨(some 152), .mv (.t 14), (some (146, false))⟩,
    ⟨(some 153), .idxA 2 (.t 151) (.t 152), (some (146, false))⟩,
    ⟨(some 154), .load 2 true (.t 153), (some (146, false))⟩,
    ⟨(some 155), .bin (.neqs [.str, .int .i64]) (.t 150) (.t 154), (some (146, false))⟩,
    ⟨(some 156), .pick (.t 146) (.c (.s (.c (.bool true)))) (.t 155), none⟩] (some (15, [])))
  (.cond (.t 156) (.seq (.region [⟨(some 2), .mv (.c (.s (.c (.bool false)))), none⟩] none)
  (.ret))
  (.skip)))
  (.region [⟨(some 157), .mv (.t 13), none⟩,
    ⟨(some 158), .bin (.plain .add) (.t 157) (.c (.s (.c (.int .i64 1)))), none⟩,
    ⟨(some 13), .mv (.t 158), none⟩] none)))))
  (.region [⟨(some 120), .mv (.t 14), none⟩,
    ⟨(some 121), .bin (.plain .add) (.t 120) (.c (.s (.c (.int .i64 1)))), none⟩,
    ⟨(some 14), .mv (.t 121), none⟩] none))))))
  (.seq (.region [⟨(some 2), .mv (.c (.s (.c (.bool true)))), none⟩] none)
  (.ret)))))))))))
  [.tmp 2]
abbrev c_bailifflaw08_KeyRow : Nat := 237

/-- bailiff/bailifflaw08.KeyNames -/
def L_bailifflaw08_KeyNames : Fn := Fn.mk
  (.seq (.region [⟨(some 0), .mv (.c (.s (.c (.bool false)))), none⟩] none)
  (.seq (.region [⟨(some 27), .call 30 [(.c (.s (.c (.str ⟨#[98]⟩))))], none⟩,
    ⟨(some 28), .call 30 [(.c (.s (.c (.str ⟨#[49, 48]⟩))))], none⟩,
    ⟨(some 29), .call 27 [(.c (.s (.c (.int .i64 1))))], none⟩,
    ⟨(some 30), .call 30 [(.c (.s (.c (.str ⟨#[50]⟩))))], none⟩,
    ⟨(some 31), .call 30 [(.c (.s (.c (.str ⟨#[97]⟩))))], none⟩,
    ⟨(some 32), .call 30 [(.c (.s (.c (.str ⟨#[48, 49]⟩))))], none⟩,
    ⟨(some 33), .call 27 [(.c (.s (.c (.int .i64 0))))], none⟩,
    ⟨(some 34), .mkSl zKey 7 [(0, (.t 27)), (1, (.t 28)), (2, (.t 29)), (3, (.t 30)), (4, (.t 31)), (5, (.t 32)), (6, (.t 33))], none⟩,
    ⟨(some 35), .call 10 [(.t 34)], none⟩,
    ⟨(some 1), .mv (.t 35), none⟩] none)
  (.seq (.region [⟨(some 36), .mv (.t 1), none⟩,
    ⟨(some 37), .len false (.t 36), none⟩,
    ⟨(some 38), .bin (.plain .eql) (.t 37) (.c (.s (.c (.int .i64 7)))), none⟩,
    ⟨(some 39), .mv (.t 38), none⟩,
    ⟨(some 40), .mv (.t 1), (some (39, true))⟩,
    ⟨(some 41), .idxA 2 (.t 40) (.c (.s (.c (.int .i64 0)))), (some (39, true))⟩,
    ⟨(some 42), .load 2 true (.t 41), (some (39, true))⟩,
    ⟨(some 43), .call 30 [(.c (.s (.c (.str ⟨#[50]⟩))))], (some (39, true))⟩,
    ⟨(some 44), .bin (.eqs [.str, .int .i64]) (.t 42) (.t 43), (some (39, true))⟩,
    ⟨(some 45), .pick (.t 39) (.t 44) (.c (.s (.c (.bool false)))), none⟩,
    ⟨(some 46), .mv (.t 45), none⟩,
    ⟨(some 47), .mv (.t 1), (some (46, true))⟩,
    ⟨(some 48), .idxA 2 (.t 47) (.c (.s (.c (.int .i64 1)))), (some (46, true))⟩,
    ⟨(some 49), .load 2 true (.t 48), (some (46, true))⟩,
    ⟨(some 50), .call 30 [(.c (.s (.c (.str ⟨#[49, 48]⟩))))], (some (46, true))⟩,
    ⟨(some 51), .bin (.eqs [.str, .int .i64]) (.t 49) (.t 50), (some (46, true))⟩,
    ⟨(some 52), .pick (.t 46) (.t 51) (.c (.s (.c (.bool false)))), none⟩,
    ⟨(some 53), .mv (.t 52), none⟩,
    ⟨(some 54), .mv (.t 1), (some (53, true))⟩,
    ⟨(some 55), .idxA 2 (.t 54) (.c (.s (.c (.int .i64 2)))), (some (53, true))⟩,
    ⟨(some 56), .load 2 true (.t 55), (some (53, true))⟩,
    ⟨(some 57), .call 30 [(.c (.s (.c (.str ⟨#[98]⟩))))], (some (53, true))⟩,
    ⟨(some 58), .bin (.eqs [.str, .int .i64]) (.t 56) (.t 57), (some (53, true))⟩,
    ⟨(some 59), .pick (.t 53) (.t 58) (.c (.s (.c (.bool false)))), none⟩,
    ⟨(some 60), .mv (.t 59), none⟩,
    ⟨(some 61), .mv (.t 1), (some (60, true))⟩,
    ⟨(some 62), .idxA 2 (.t 61) (.c (.s (.c (.int .i64 3)))), (some (60, true))⟩,
    ⟨(some 63), .load 2 true (.t 62), (some (60, true))⟩,
    ⟨(some 64), .call 30 [(.c (.s (.c (.str ⟨#[97]⟩))))], (some (60, true))⟩,
    ⟨(some 65), .bin (.eqs [.str, .int .i64]) (.t 63) (.t 64), (some (60, true))⟩,
    ⟨(some 66), .pick (.t 60) (.t 65) (.c (.s (.c (.bool false)))), none⟩,
    ⟨(some 67), .mv (.t 66), none⟩,
    ⟨(some 68), .mv (.t 1), (some (67, true))⟩,
    ⟨(some 69), .idxA 2 (.t 68) (.c (.s (.c (.int .i64 4)))), (some (67, true))⟩,
    ⟨(some 70), .load 2 true (.t 69), (some (67, true))⟩,
    ⟨(some 71), .call 30 [(.c (.s (.c (.str ⟨#[48, 49]⟩))))], (some (67, true))⟩,
    ⟨(some 72), .bin (.eqs [.str, .int .i64]) (.t 70) (.t 71), (some (67, true))⟩,
    ⟨(some 73), .pick (.t 67) (.t 72) (.c (.s (.c (.bool false)))), none⟩,
    ⟨(some 74), .mv (.t 73), none⟩,
    ⟨(some 75), .mv (.t 1), (some (74, true))⟩,
    ⟨(some 76), .idxA 2 (.t 75) (.c (.s (.c (.int .i64 5)))), (some (74, true))⟩,
    ⟨(some 77), .load 2 true (.t 76), (some (74, true))⟩,
    ⟨(some 78), .call 27 [(.c (.s (.c (.int .i64 1))))], (some (74, true))⟩,
    ⟨(some 79), .bin (.eqs [.str, .int .i64]) (.t 77) (.t 78), (some (74, true))⟩,
    ⟨(some 80), .pick (.t 74) (.t 79) (.c (.s (.c (.bool false)))), none⟩,
    ⟨(some 81), .mv (.t 80), none⟩,
    ⟨(some 82), .mv (.t 1), (some (81, true))⟩,
    ⟨(some 83), .idxA 2 (.t 82) (.c (.s (.c (.int .i64 6)))), (some (81, true))⟩,
    ⟨(some 84), .load 2 true (.t 83), (some (81, true))⟩,
    ⟨(some 85), .call 27 [(.c (.s (.c (.int .i64 0))))], (some (81, true))⟩,
    ⟨(some 86), .bin (.eqs [.str, .int .i64]) (.t 84) (.t 85), (some (81, true))⟩,
    ⟨(some 87), .pick (.t 81) (.t 86) (.c (.s (.c (.bool false)))), none⟩,
    ⟨(some 2), .mv (.t 87), none⟩] (some (53, [])))
  (.seq (.region [⟨(some 89), .call 30 [(.c (.s (.c (.str ⟨#[49, 48, 50, 51]⟩))))], none⟩,
    ⟨(some 90), .call 49 [(.t 89)], none⟩,
    ⟨(some 88), .mv (.t 90), none⟩,
    ⟨(some 91), .extract (.t 88) 0, none⟩,
    ⟨(some 92), .extract (.t 88) 1, none⟩,
    ⟨(some 3), .mv (.t 91), none⟩,
    ⟨(some 4), .mv (.t 92), none⟩] none)
  (.seq (.region [⟨(some 94), .call 30 [(.c (.s (.c (.str ⟨#[49, 48, 50, 52]⟩))))], none⟩,
    ⟨(some 95), .call 49 [(.t 94)], none⟩,
    ⟨(some 93), .mv (.t 95), none⟩,
    ⟨(some 96), .extract (.t 93) 0, none⟩,
    ⟨(some 97), .extract (.t 93) 1, none⟩,
    ⟨(some 5), .mv (.t 96), none⟩,
    ⟨(some 6), .mv (.t 97), none⟩] none)
  (.seq (.region [⟨(some 99), .call 30 [(.c (.s (.c (.str ⟨#[48, 49]⟩))))], none⟩,
    ⟨(some 100), .call 49 [(.t 99)], none⟩,
    ⟨(some 98), .mv (.t 100), none⟩,
    ⟨(some 101), .extract (.t 98) 0, none⟩,
    ⟨(some 102), .extract (.t 98) 1, none⟩,
    ⟨(some 7), .mv (.t 101), none⟩,
    ⟨(some 8), .mv (.t 102), none⟩] none)
  (.seq (.region [⟨(some 104), .call 30 [(.c (.s (.c (.str ⟨#[45, 49]⟩))))], none⟩,
    ⟨(some 105), .call 49 [(.t 104)], none⟩,
    ⟨(some 103), .mv (.t 105), none⟩,
    ⟨(some 106), .extract (.t 103) 0, none⟩,
    ⟨(some 107), .extract (.t 103) 1, none⟩,
    ⟨(some 9), .mv (.t 106), none⟩,
    ⟨(some 10), .mv (.t 107), none⟩] none)
  (.seq (.region [⟨(some 109), .build zKey [(0, 1, (.c (.s (.c (.str ⟨#[51]⟩))))), (1, 1, (.c (.s (.c (.int .i64 4)))))], none⟩,
    ⟨(some 110), .call 49 [(.t 109)], none⟩,
    ⟨(some 108), .mv (.t 110), none⟩,
    ⟨(some 111), .extract (.t 108) 0, none⟩,
    ⟨(some 112), .extract (.t 108) 1, none⟩,
    ⟨(some 11), .mv (.t 111), none⟩,
    ⟨(some 12), .mv (.t 112), none⟩] none)
  (.seq (.region [⟨(some 113), .mv (.t 4), none⟩,
    ⟨(some 114), .mv (.t 113), none⟩,
    ⟨(some 115), .mv (.t 3), (some (114, true))⟩,
    ⟨(some 116), .bin (.plain .eql) (.t 115) (.c (.s (.c (.int .i64 1023)))), (some (114, true))⟩,
    ⟨(some 117), .pick (.t 114) (.t 116) (.c (.s (.c (.bool false)))), none⟩,
    ⟨(some 118), .mv (.t 117), none⟩,
    ⟨(some 119), .mv (.t 6), (some (118, true))⟩,
    ⟨(some 120), .un .not (.t 119), (some (118, true))⟩,
    ⟨(some 121), .pick (.t 118) (.t 120) (.c (.s (.c (.bool false)))), none⟩,
    ⟨(some 122), .mv (.t 121), none⟩,
    ⟨(some 123), .mv (.t 8), (some (122, true))⟩,
    ⟨(some 124), .un .not (.t 123), (some (122, true))⟩,
    ⟨(some 125), .pick (.t 122) (.t 124) (.c (.s (.c (.bool false)))), none⟩,
    ⟨(some 126), .mv (.t 125), none⟩,
    ⟨(some 127), .mv (.t 10), (some (126, true))⟩,
    ⟨(some 128), .un .not (.t 127), (some (126, true))⟩,
    ⟨(some 129), .pick (.t 126) (.t 128) (.c (.s (.c (.bool false)))), none⟩,
    ⟨(some 130), .mv (.t 129), none⟩,
    ⟨(some 131), .mv (.t 12), (some (130, true))⟩,
    ⟨(some 132), .un .not (.t 131), (some (130, true))⟩,
    ⟨(some 133), .pick (.t 130) (.t 132) (.c (.s (.c (.bool false)))), none⟩,
    ⟨(some 13), .mv (.t 133), none⟩] none)
  (.seq (.region [⟨(some 14), .mv (.c (.s (.c (.flt 0)))), none⟩] none)
  (.seq (.region [⟨(some 135), .build zVal [(0, 1, (.c (.s (.c (.int .u8 3))))), (1, 1, (.c (.s (.c (.flt 4619567317775286272)))))], none⟩,
    ⟨(some 136), .call 200 [(.t 135)], none⟩,
    ⟨(some 134), .mv (.t 136), none⟩,
    ⟨(some 137), .extract (.t 134) 0, none⟩,
    ⟨(some 138), .extract (.t 134) 1, none⟩,
    ⟨(some 15), .alloc zKey, none⟩,
    ⟨none, .store 2 (.t 15) (.t 137), none⟩,
    ⟨(some 16), .mv (.t 138), none⟩] none)
  (.seq (.region [⟨(some 140), .build zVal [(0, 1, (.c (.s (.c (.int .u8 2))))), (1, 1, (.c (.s (.c (.flt 4607182418800017408)))))], none⟩,
    ⟨(some 141), .call 200 [(.t 140)], none⟩,
    ⟨(some 139), .mv (.t 141), none⟩,
    ⟨(some 142), .extract (.t 139) 0, none⟩,
    ⟨(some 143), .extract (.t 139) 1, none⟩,
    ⟨(some 17), .alloc zKey, none⟩,
    ⟨none, .store 2 (.t 17) (.t 142), none⟩,
    ⟨(some 18), .mv (.t 143), none⟩] none)
  (.seq (.region [⟨(some 145), .mv (.t 14), none⟩,
    ⟨(some 146), .mv (.t 14), none⟩,
    ⟨(some 147), .call 4000100 [(.t 145), (.t 146)], none⟩,
    ⟨(some 148), .build zVal [(0, 1, (.c (.s (.c (.int .u8 3))))), (1, 1, (.t 147))], none⟩,
    ⟨(some 149), .call 200 [(.t 148)], none⟩,
    ⟨(some 144), .mv (.t 149), none⟩,
    ⟨(some 150), .extract (.t 144) 0, none⟩,
    ⟨(some 151), .extract (.t 144) 1, none⟩,
    ⟨(some 19), .alloc zKey, none⟩,
    ⟨none, .store 2 (.t 19) (.t 150), none⟩,
    ⟨(some 20), .mv (.t 151), none⟩] none)
  (.seq (.region [⟨(some 153), .build zVal [(0, 1, (.c (.s (.c (.int .u8 5))))), (3, 1, (.c (.s (.c (.int .i64 2)))))], none⟩,
    ⟨(some 154), .call 200 [(.t 153)], none⟩,
    ⟨(some 152), .mv (.t 154), none⟩,
    ⟨(some 155), .extract (.t 152) 0, none⟩,
    ⟨(some 156), .extract (.t 152) 1, none⟩,
    ⟨(some 21), .alloc zKey, none⟩,
    ⟨none, .store 2 (.t 21) (.t 155), none⟩,
    ⟨(some 22), .mv (.t 156), none⟩] none)
  (.seq (.region [⟨(some 158), .build zVal [(0, 1, (.c (.s (.c (.int .u8 6))))), (3, 1, (.c (.s (.c (.int .i64 2)))))], none⟩,
    ⟨(some 159), .call 200 [(.t 158)], none⟩,
    ⟨(some 157), .mv (.t 159), none⟩,
    ⟨(some 160), .extract (.t 157) 0, none⟩,
    ⟨(some 161), .extract (.t 157) 1, none⟩,
    ⟨(some 23), .alloc zKey, none⟩,
    ⟨none, .store 2 (.t 23) (.t 160), none⟩,
    ⟨(some 24), .mv (.t 161), none⟩] none)
  (.seq (.region [⟨(some 162), .mv (.t 16), none⟩,
    ⟨(some 163), .bin (.plain .eql) (.t 162) (.c (.s (.c (.int .i64 0)))), none⟩,
    ⟨(some 164), .mv (.t 163), none⟩,
    ⟨(some 165), .load 2 true (.t 15), (some (164, true))⟩,
    ⟨(some 166), .call 30 [(.c (.s (.c (.str ⟨#[55]⟩))))], (some (164, true))⟩,
    ⟨(some 167), .bin (.eqs [.str, .int .i64]) (.t 165) (.t 166), (some (164, true))⟩,
    ⟨(some 168), .pick (.t 164) (.t 167) (.c (.s (.c (.bool false)))), none⟩,
    ⟨(some 169), .mv (.t 168), none⟩,
    ⟨(some 170), .mv (.t 18), (some (169, true))⟩,
    ⟨(some 171), .bin (.plain .eql) (.t 170) (.c (.s (.c (.int .i64 0)))), (some (169, true))⟩,
    ⟨(some 172), .pick (.t 169) (.t 171) (.c (.s (.c (.bool false)))), none⟩,
    ⟨(some 173), .mv (.t 172), none⟩,
    ⟨(some 174), .load 2 true (.t 17), (some (173, true))⟩,
    ⟨(some 175), .call 30 [(.c (.s (.c (.str ⟨#[116, 114, 117, 101]⟩))))], (some (173, true))⟩,
    ⟨(some 176), .bin (.eqs [.str, .int .i64]) (.t 174) (.t 175), (some (173, true))⟩,
    ⟨(some 177), .pick (.t 173) (.t 176) (.c (.s (.c (.bool false)))), none⟩,
    ⟨(some 178), .mv (.t 177), none⟩,
    ⟨(some 179), .mv (.t 20), (some (178, true))⟩,
    ⟨(some 180), .bin (.plain .eql) (.t 179) (.c (.s (.c (.int .i64 0)))), (some (178, true))⟩,
    ⟨(some 181), .pick (.t 178) (.t 180) (.c (.s (.c (.bool false)))), none⟩,
    ⟨(some 182), .mv (.t 181), none⟩,
    ⟨(some 183), .load 2 true (.t 19), (some (182, true))⟩,
    ⟨(some 184), .call 30 [(.c (.s (.c (.str ⟨#[78, 97, 78]⟩))))], (some (182, true))⟩,
    ⟨(some 185), .bin (.eqs [.str, .int .i64]) (.t 183) (.t 184), (some (182, true))⟩,
    ⟨(some 186), .pick (.t 182) (.t 185) (.c (.s (.c (.bool false)))), none⟩,
    ⟨(some 187), .mv (.t 186), none⟩,
    ⟨(some 188), .mv (.t 22), (some (187, true))⟩,
    ⟨(some 189), .bin (.plain .eql) (.t 188) (.c (.s (.c (.int .i64 0)))), (some (187, true))⟩,
    ⟨(some 190), .pick (.t 187) (.t 189) (.c (.s (.c (.bool false)))), none⟩,
    ⟨(some 191), .mv (.t 190), none⟩,
    ⟨(some 192), .load 2 true (.t 21), (some (191, true))⟩,
    ⟨(some 193), .call 27 [(.c (.s (.c (.int .i64 2))))], (some (191, true))⟩,
    ⟨(some 194), .bin (.eqs [.str, .int .i64]) (.t 192) (.t 193), (some (191, true))⟩,
    ⟨(some 195), .pick (.t 191) (.t 194) (.c (.s (.c (.bool false)))), none⟩,
    ⟨(some 196), .mv (.t 195), none⟩,
    ⟨(some 197), .mv (.t 24), (some (196, true))⟩,
    ⟨(some 198), .bin (.plain .eql) (.t 197) (.c (.s (.c (.int .i64 9)))), (some (196, true))⟩,
    ⟨(some 199), .pick (.t 196) (.t 198) (.c (.s (.c (.bool false)))), none⟩,
    ⟨(some 25), .mv (.t 199), none⟩] (some (39, [])))
  (.seq (.region [⟨(some 200), .build zKey [(1, 1, (.c (.s (.c (.int .i64 (-1))))))], none⟩,
    ⟨(some 201), .call 32 [(.t 200)], none⟩,
    ⟨(some 202), .bin (.plain .eql) (.t 201) (.c (.s (.c (.int .i64 9)))), none⟩,
    ⟨(some 203), .mv (.t 202), none⟩,
    ⟨(some 204), .build zKey [(0, 1, (.c (.s (.c (.str ⟨#[97]⟩))))), (1, 1, (.c (.s (.c (.int .i64 1)))))], (some (203, true))⟩,
    ⟨(some 205), .call 32 [(.t 204)], (some (203, true))⟩,
    ⟨(some 206), .bin (.plain .eql) (.t 205) (.c (.s (.c (.int .i64 9)))), (some (203, true))⟩,
    ⟨(some 207), .pick (.t 203) (.t 206) (.c (.s (.c (.bool false)))), none⟩,
    ⟨(some 208), .mv (.t 207), none⟩,
    ⟨(some 209), .call 27 [(.c (.s (.c (.int .i64 5))))], (some (208, true))⟩,
    ⟨(some 210), .call 32 [(.t 209)], (some (208, true))⟩,
    ⟨(some 211), .bin (.plain .eql) (.t 210) (.c (.s (.c (.int .i64 0)))), (some (208, true))⟩,
    ⟨(some 212), .pick (.t 208) (.t 211) (.c (.s (.c (.bool false)))), none⟩,
    ⟨(some 213), .mv (.t 212), none⟩,
    ⟨(some 214), .call 27 [(.c (.s (.c (.int .i64 (-1)))))], (some (213, true))⟩,
    ⟨(some 215), .build zKey [], (some (213, true))⟩,
    ⟨(some 216), .bin (.eqs [.str, .int .i64]) (.t 214) (.t 215), (some (213, true))⟩,
    ⟨(some 217), .pick (.t 213) (.t 216) (.c (.s (.c (.bool false)))), none⟩,
    ⟨(some 218), .mv (.t 217), none⟩,
    ⟨(some 219), .call 203 [(.c (.s (.c (.int .i64 (-3)))))], (some (218, true))⟩,
    ⟨(some 220), .call 30 [(.c (.s (.c (.str ⟨#[45, 51]⟩))))], (some (218, true))⟩,
    ⟨(some 221), .bin (.eqs [.str, .int .i64]) (.t 219) (.t 220), (some (218, true))⟩,
    ⟨(some 222), .pick (.t 218) (.t 221) (.c (.s (.c (.bool false)))), none⟩,
    ⟨(some 26), .mv (.t 222), none⟩] none)
  (.seq (.region [⟨(some 223), .mv (.c (.s (.c (.bool true)))), none⟩,
    ⟨(some 224), .call 209 [], (some (223, true))⟩,
    ⟨(some 225), .pick (.t 223) (.t 224) (.c (.s (.c (.bool false)))), none⟩,
    ⟨(some 226), .mv (.t 225), none⟩,
    ⟨(some 227), .mv (.t 2), (some (226, true))⟩,
    ⟨(some 228), .pick (.t 226) (.t 227) (.c (.s (.c (.bool false)))), none⟩,
    ⟨(some 229), .mv (.t 228), none⟩,
    ⟨(some 230), .mv (.t 13), (some (229, true))⟩,
    ⟨(some 231), .pick (.t 229) (.t 230) (.c (.s (.c (.bool false)))), none⟩,
    ⟨(some 232), .mv (.t 231), none⟩,
    ⟨(some 233), .mv (.t 25), (some (232, true))⟩,
    ⟨(some 234), .pick (.t 232) (.t 233) (.c (.s (.c (.bool false)))), none⟩,
    ⟨(some 235), .mv (.t 234), none⟩,
    ⟨(some 236), .mv (.t 26), (some (235, true))⟩,
    ⟨(some 237), .pick (.t 235) (.t 236) (.c (.s (.c (.bool false)))), none⟩,
    ⟨(some 0), .mv (.t 237), none⟩] none)
  (.ret)))))))))))))))))))
  [.tmp 0]
abbrev c_bailifflaw08_KeyNames : Nat := 238

/-- bailiff/bailifflaw08.KeyBack -/
def L_bailifflaw08_KeyBack : Fn := Fn.mk
  (.seq (.region [⟨(some 2), .box 2 (.t 0), none⟩,
    ⟨(some 3), .box 2 (.t 1), none⟩,
    ⟨(some 4), .mv (.c (.s (.c (.bool false)))), none⟩] none)
  (.seq (.region [⟨(some 10), .call 209 [], none⟩,
    ⟨(some 5), .mv (.t 10), none⟩] none)
  (.seq (.seq (.region [⟨(some 11), .load 2 true (.t 2), none⟩,
    ⟨(some 12), .call 32 [(.t 11)], none⟩,
    ⟨(some 13), .bin (.plain .neq) (.t 12) (.c (.s (.c (.int .i64 0)))), none⟩,
    ⟨(some 14), .mv (.t 13), none⟩,
    ⟨(some 15), .load 2 true (.t 3), (some (14, false))⟩,
    ⟨(some 16), .call 32 [(.t 15)], (some (14, false))⟩,
    ⟨(some 17), .bin (.plain .neq) (.t 16) (.c (.s (.c (.int .i64 0)))), (some (14, false))⟩,
    ⟨(some 18), .pick (.t 14) (.c (.s (.c (.bool true)))) (.t 17), none⟩,
    ⟨(some 19), .mv (.t 18), none⟩,
    ⟨(some 20), .mv (.t 5), (some (19, false))⟩,
    ⟨(some 21), .un .not (.t 20), (some (19, false))⟩,
    ⟨(some 22), .pick (.t 19) (.c (.s (.c (.bool true)))) (.t 21), none⟩] none)
  (.cond (.t 22) (.seq (.region [⟨(some 23), .mv (.t 5), none⟩,
    ⟨(some 4), .mv (.t 23), none⟩] none)
  (.ret))
  (.skip)))
  (.seq (.region [⟨(some 25), .load 2 true (.t 2), none⟩,
    ⟨(some 26), .call 205 [(.t 25)], none⟩,
    ⟨(some 27), .call 200 [(.t 26)], none⟩,
    ⟨(some 24), .mv (.t 27), none⟩,
    ⟨(some 28), .extract (.t 24) 0, none⟩,
    ⟨(some 29), .extract (.t 24) 1, none⟩,
    ⟨(some 6), .alloc zKey, none⟩,
    ⟨none, .store 2 (.t 6) (.t 28), none⟩,
    ⟨(some 7), .mv (.t 29), none⟩] none)
  (.seq (.seq (.region [⟨(some 30), .mv (.t 7), none⟩,
    ⟨(some 31), .bin (.plain .neq) (.t 30) (.c (.s (.c (.int .i64 0)))), none⟩,
    ⟨(some 32), .mv (.t 31), none⟩,
    ⟨(some 33), .load 2 true (.t 6), (some (32, false))⟩,
    ⟨(some 34), .load 2 true (.t 2), (some (32, false))⟩,
    ⟨(some 35), .bin (.neqs [.str, .int .i64]) (.t 33) (.t 34), (some (32, false))⟩,
    ⟨(some 36), .pick (.t 32) (.c (.s (.c (.bool true)))) (.t 35), none⟩,
    ⟨(some 37), .mv (.t 36), none⟩,
    ⟨(some 38), .load 2 true (.t 2), (some (37, false))⟩,
    ⟨(some 39), .call 207 [(.t 38)], (some (37, false))⟩,
    ⟨(some 40), .load 2 true (.t 3), (some (37, false))⟩,
    ⟨(some 41), .call 207 [(.t 40)], (some (37, false))⟩,
    ⟨(some 42), .bin (.plain .eql) (.t 39) (.t 41), (some (37, false))⟩,
    ⟨(some 43), .load 2 true (.t 2), (some (37, false))⟩,
    ⟨(some 44), .load 2 true (.t 3), (some (37, false))⟩,
    ⟨(some 45), .bin (.eqs [.str, .int .i64]) (.t 43) (.t 44), (some (37, false))⟩,
    ⟨(some 46), .bin (.eqb false) (.t 42) (.t 45), (some (37, false))⟩,
    ⟨(some 47), .pick (.t 37) (.c (.s (.c (.bool true)))) (.t 46), none⟩] (some (18, [])))
  (.cond (.t 47) (.seq (.region [⟨(some 4), .mv (.c (.s (.c (.bool false)))), none⟩] none)
  (.ret))
  (.skip)))
  (.seq (.region [⟨(some 49), .load 2 true (.t 2), none⟩,
    ⟨(some 50), .call 49 [(.t 49)], none⟩,
    ⟨(some 48), .mv (.t 50), none⟩,
    ⟨(some 51), .extract (.t 48) 0, none⟩,
    ⟨(some 52), .extract (.t 48) 1, none⟩,
    ⟨(some 8), .mv (.t 51), none⟩,
    ⟨(some 9), .mv (.t 52), none⟩] none)
  (.seq (.seq (.region [⟨(some 53), .mv (.t 9), none⟩,
    ⟨(some 54), .un .not (.t 53), none⟩] none)
  (.cond (.t 54) (.seq (.region [⟨(some 55), .mv (.t 8), none⟩,
    ⟨(some 56), .bin (.plain .eql) (.t 55) (.c (.s (.c (.int .i64 0)))), none⟩,
    ⟨(some 4), .mv (.t 56), none⟩] none)
  (.ret))
  (.skip)))
  (.seq (.region [⟨(some 57), .mv (.t 8), none⟩,
    ⟨(some 58), .call 203 [(.t 57)], none⟩,
    ⟨(some 59), .load 2 true (.t 2), none⟩,
    ⟨(some 60), .bin (.eqs [.str, .int .i64]) (.t 58) (.t 59), none⟩,
    ⟨(some 61), .mv (.t 60), none⟩,
    ⟨(some 62), .mv (.t 8), (some (61, true))⟩,
    ⟨(some 63), .bin (.plain .geq) (.t 62) (.c (.s (.c (.int .i64 0)))), (some (61, true))⟩,
    ⟨(some 64), .pick (.t 61) (.t 63) (.c (.s (.c (.bool false)))), none⟩,
    ⟨(some 65), .mv (.t 64), none⟩,
    ⟨(some 66), .mv (.t 8), (some (65, true))⟩,
    ⟨(some 67), .bin (.plain .lss) (.t 66) (.c (.s (.c (.int .i64 1024)))), (some (65, true))⟩,
    ⟨(some 68), .pick (.t 65) (.t 67) (.c (.s (.c (.bool false)))), none⟩,
    ⟨(some 4), .mv (.t 68), none⟩] (some (13, [])))
  (.ret)))))))))
  [.tmp 4]
abbrev c_bailifflaw08_KeyBack : Nat := 239

/-- bailiff/key.Prim -/
def L_key_Prim : Fn := Fn.mk
  (.seq (.region [⟨(some 1), .box 4 (.t 0), none⟩,
    ⟨(some 2), .alloc zKey, none⟩,
    ⟨(some 3), .mv (.c (.s (.c (.int .i64 0)))), none⟩] none)
  (.seq (.seq (.region [⟨(some 4), .load 4 true (.t 1), none⟩,
    ⟨(some 5), .call 67 [(.t 4)], none⟩,
    ⟨(some 6), .un .not (.t 5), none⟩,
    ⟨(some 7), .mv (.t 6), none⟩,
    ⟨(some 8), .load 4 true (.t 1), (some (7, false))⟩,
    ⟨(some 9), .call 64 [(.t 8)], (some (7, false))⟩,
    ⟨(some 10), .pick (.t 7) (.c (.s (.c (.bool true)))) (.t 9), none⟩] none)
  (.cond (.t 10) (.seq (.region [⟨(some 11), .build zKey [], none⟩,
    ⟨none, .store 2 (.t 2) (.t 11), none⟩,
    ⟨(some 3), .mv (.c (.s (.c (.int .i64 9)))), none⟩] none)
  (.ret))
  (.skip)))
  (.seq (.seq (.region [⟨(some 12), .fld 0 (.t 1), none⟩,
    ⟨(some 13), .load 1 false (.t 12), none⟩] none)
  (.block 0 (.seq (.region [⟨(some 15), .bin (.plain .eql) (.t 13) (.c (.s (.c (.int .u8 4)))), none⟩,
    ⟨(some 14), .mv (.t 15), none⟩] none)
  (.cond (.t 14) (.seq (.region [⟨(some 16), .fld 2 (.t 1), none⟩,
    ⟨(some 17), .load 1 false (.t 16), none⟩,
    ⟨(some 18), .call 30 [(.t 17)], none⟩,
    ⟨none, .store 2 (.t 2) (.t 18), none⟩,
    ⟨(some 3), .mv (.c (.s (.c (.int .i64 0)))), none⟩] none)
  (.ret))
  (.seq (.region [⟨(some 20), .bin (.plain .eql) (.t 13) (.c (.s (.c (.int .u8 5)))), none⟩,
    ⟨(some 19), .mv (.t 20), none⟩] none)
  (.cond (.t 19) (.seq (.region [⟨(some 21), .fld 3 (.t 1), none⟩,
    ⟨(some 22), .load 1 false (.t 21), none⟩,
    ⟨(some 23), .call 27 [(.t 22)], none⟩,
    ⟨none, .store 2 (.t 2) (.t 23), none⟩,
    ⟨(some 3), .mv (.c (.s (.c (.int .i64 0)))), none⟩] none)
  (.ret))
  (.seq (.region [⟨(some 25), .bin (.plain .eql) (.t 13) (.c (.s (.c (.int .u8 3)))), none⟩,
    ⟨(some 24), .mv (.t 25), none⟩] none)
  (.cond (.t 24) (.seq (.region [⟨(some 26), .fld 1 (.t 1), none⟩,
    ⟨(some 27), .load 1 false (.t 26), none⟩,
    ⟨(some 28), .call 212 [(.t 27)], none⟩,
    ⟨(some 29), .call 30 [(.t 28)], none⟩,
    ⟨none, .store 2 (.t 2) (.t 29), none⟩,
    ⟨(some 3), .mv (.c (.s (.c (.int .i64 0)))), none⟩] none)
  (.ret))
  (.skip)))))))))
  (.seq (.region [⟨(some 30), .load 4 true (.t 1), none⟩,
    ⟨(some 31), .call 213 [(.t 30)], none⟩,
    ⟨(some 32), .call 30 [(.t 31)], none⟩,
    ⟨none, .store 2 (.t 2) (.t 32), none⟩,
    ⟨(some 3), .mv (.c (.s (.c (.int .i64 0)))), none⟩] none)
  (.ret)))))
  [.cell 2 2 true, .tmp 3]
abbrev c_key_Prim : Nat := 200

/-- bailiff/bailiffref08.Prim -/
def L_bailiffref08_Prim : Fn := Fn.mk
  (.seq (.region [⟨(some 1), .box 4 (.t 0), none⟩,
    ⟨(some 2), .alloc zKey, none⟩,
    ⟨(some 3), .mv (.c (.s (.c (.int .i64 0)))), none⟩] none)
  (.seq (.seq (.region [⟨(some 4), .load 4 true (.t 1), none⟩,
    ⟨(some 5), .call 59 [(.t 4)], none⟩,
    ⟨(some 6), .un .not (.t 5), none⟩,
    ⟨(some 7), .mv (.t 6), none⟩,
    ⟨(some 8), .load 4 true (.t 1), (some (7, false))⟩,
    ⟨(some 9), .call 115 [(.t 8)], (some (7, false))⟩,
    ⟨(some 10), .pick (.t 7) (.c (.s (.c (.bool true)))) (.t 9), none⟩] none)
  (.cond (.t 10) (.seq (.region [⟨(some 11), .build zKey [], none⟩,
    ⟨none, .store 2 (.t 2) (.t 11), none⟩,
    ⟨(some 3), .mv (.c (.s (.c (.int .i64 9)))), none⟩] none)
  (.ret))
  (.skip)))
  (.seq (.seq (.region [⟨(some 12), .fld 0 (.t 1), none⟩,
    ⟨(some 13), .load 1 false (.t 12), none⟩] none)
  (.block 0 (.seq (.region [⟨(some 15), .bin (.plain .eql) (.t 13) (.c (.s (.c (.int .u8 4)))), none⟩,
    ⟨(some 14), .mv (.t 15), none⟩] none)
  (.cond (.t 14) (.seq (.region [⟨(some 16), .fld 2 (.t 1), none⟩,
    ⟨(some 17), .load 1 false (.t 16), none⟩,
    ⟨(some 18), .build zKey [(0, 1, (.t 17))], none⟩,
    ⟨none, .store 2 (.t 2) (.t 18), none⟩,
    ⟨(some 3), .mv (.c (.s (.c (.int .i64 0)))), none⟩] none)
  (.ret))
  (.seq (.region [⟨(some 20), .bin (.plain .eql) (.t 13) (.c (.s (.c (.int .u8 5)))), none⟩,
    ⟨(some 19), .mv (.t 20), none⟩] none)
  (.cond (.t 19) (.seq (.region [⟨(some 21), .fld 3 (.t 1), none⟩,
    ⟨(some 22), .load 1 false (.t 21), none⟩,
    ⟨(some 23), .call 202 [(.t 22)], none⟩,
    ⟨none, .store 2 (.t 2) (.t 23), none⟩,
    ⟨(some 3), .mv (.c (.s (.c (.int .i64 0)))), none⟩] none)
  (.ret))
  (.seq (.region [⟨(some 25), .bin (.plain .eql) (.t 13) (.c (.s (.c (.int .u8 3)))), none⟩,
    ⟨(some 24), .mv (.t 25), none⟩] none)
  (.cond (.t 24) (.seq (.region [⟨(some 26), .fld 1 (.t 1), none⟩,
    ⟨(some 27), .load 1 false (.t 26), none⟩,
    ⟨(some 28), .call 214 [(.t 27)], none⟩,
    ⟨(some 29), .build zKey [(0, 1, (.t 28))], none⟩,
    ⟨none, .store 2 (.t 2) (.t 29), none⟩,
    ⟨(some 3), .mv (.c (.s (.c (.int .i64 0)))), none⟩] none)
  (.ret))
  (.skip)))))))))
  (.seq (.region [⟨(some 30), .load 4 true (.t 1), none⟩,
    ⟨(some 31), .call 215 [(.t 30)], none⟩,
    ⟨(some 32), .build zKey [(0, 1, (.t 31))], none⟩,
    ⟨none, .store 2 (.t 2) (.t 32), none⟩,
    ⟨(some 3), .mv (.c (.s (.c (.int .i64 0)))), none⟩] none)
  (.ret)))))
  [.cell 2 2 true, .tmp 3]
abbrev c_bailiffref08_Prim : Nat := 201

/-- bailiff/bailiffref08.Sym -/
def L_bailiffref08_Sym : Fn := Fn.mk
  (.seq (.region [⟨(some 2), .alloc zKey, none⟩] none)
  (.seq (.seq (.region [⟨(some 3), .mv (.t 0), none⟩,
    ⟨(some 4), .bin (.plain .lss) (.t 3) (.c (.s (.c (.int .i64 0)))), none⟩,
    ⟨(some 5), .mv (.t 4), none⟩,
    ⟨(some 6), .mv (.t 0), (some (5, false))⟩,
    ⟨(some 7), .bin (.plain .eql) (.t 6) (.c (.s (.c (.int .i64 9223372036854775807)))), (some (5, false))⟩,
    ⟨(some 8), .pick (.t 5) (.c (.s (.c (.bool true)))) (.t 7), none⟩] none)
  (.cond (.t 8) (.seq (.region [⟨(some 9), .build zKey [], none⟩,
    ⟨none, .store 2 (.t 2) (.t 9), none⟩] none)
  (.ret))
  (.skip)))
  (.seq (.region [⟨(some 10), .mv (.t 0), none⟩,
    ⟨(some 11), .bin (.plain .add) (.t 10) (.c (.s (.c (.int .i64 1)))), none⟩,
    ⟨(some 12), .build zKey [(1, 1, (.t 11))], none⟩,
    ⟨none, .store 2 (.t 2) (.t 12), none⟩] none)
  (.ret))))
  [.cell 2 2 true]
abbrev c_bailiffref08_Sym : Nat := 202

/-- bailiff/key.Number -/
def L_key_Number : Fn := Fn.mk
  (.seq (.region [⟨(some 2), .alloc zKey, none⟩] none)
  (.seq (.region [⟨(some 3), .mv (.t 0), none⟩,
    ⟨(some 4), .call 216 [(.t 3)], none⟩,
    ⟨(some 5), .call 30 [(.t 4)], none⟩,
    ⟨none, .store 2 (.t 2) (.t 5), none⟩] none)
  (.ret)))
  [.cell 2 2 true]
abbrev c_key_Number : Nat := 203

/-- bailiff/bailiffref08.Number -/
def L_bailiffref08_Number : Fn := Fn.mk
  (.seq (.region [⟨(some 2), .alloc zKey, none⟩] none)
  (.seq (.region [⟨(some 3), .mv (.t 0), none⟩,
    ⟨(some 4), .call 51 [(.t 3)], none⟩,
    ⟨(some 5), .build zKey [(0, 1, (.t 4))], none⟩,
    ⟨none, .store 2 (.t 2) (.t 5), none⟩] none)
  (.ret)))
  [.cell 2 2 true]
abbrev c_bailiffref08_Number : Nat := 204

/-- bailiff/key.Value -/
def L_key_Value : Fn := Fn.mk
  (.seq (.region [⟨(some 1), .box 2 (.t 0), none⟩,
    ⟨(some 2), .alloc zVal, none⟩] none)
  (.seq (.seq (.region [⟨(some 3), .fld 1 (.t 1), none⟩,
    ⟨(some 4), .load 1 false (.t 3), none⟩,
    ⟨(some 5), .bin (.plain .gtr) (.t 4) (.c (.s (.c (.int .i64 0)))), none⟩] none)
  (.cond (.t 5) (.seq (.region [⟨(some 6), .fld 1 (.t 1), none⟩,
    ⟨(some 7), .load 1 false (.t 6), none⟩,
    ⟨(some 8), .bin (.plain .sub) (.t 7) (.c (.s (.c (.int .i64 1)))), none⟩,
    ⟨(some 9), .build zVal [(0, 1, (.c (.s (.c (.int .u8 5))))), (3, 1, (.t 8))], none⟩,
    ⟨none, .store 4 (.t 2) (.t 9), none⟩] none)
  (.ret))
  (.skip)))
  (.seq (.region [⟨(some 10), .fld 0 (.t 1), none⟩,
    ⟨(some 11), .load 1 false (.t 10), none⟩,
    ⟨(some 12), .call 217 [(.t 11)], none⟩,
    ⟨none, .store 4 (.t 2) (.t 12), none⟩] none)
  (.ret))))
  [.cell 2 4 true]
abbrev c_key_Value : Nat := 205

/-- bailiff/bailiffref08.Value -/
def L_bailiffref08_Value : Fn := Fn.mk
  (.seq (.region [⟨(some 1), .box 2 (.t 0), none⟩,
    ⟨(some 2), .alloc zVal, none⟩] none)
  (.seq (.seq (.region [⟨(some 3), .fld 1 (.t 1), none⟩,
    ⟨(some 4), .load 1 false (.t 3), none⟩,
    ⟨(some 5), .bin (.plain .gtr) (.t 4) (.c (.s (.c (.int .i64 0)))), none⟩] none)
  (.cond (.t 5) (.seq (.region [⟨(some 6), .fld 1 (.t 1), none⟩,
    ⟨(some 7), .load 1 false (.t 6), none⟩,
    ⟨(some 8), .bin (.plain .sub) (.t 7) (.c (.s (.c (.int .i64 1)))), none⟩,
    ⟨(some 9), .build zVal [(0, 1, (.c (.s (.c (.int .u8 5))))), (3, 1, (.t 8))], none⟩,
    ⟨none, .store 4 (.t 2) (.t 9), none⟩] none)
  (.ret))
  (.skip)))
  (.seq (.region [⟨(some 10), .fld 0 (.t 1), none⟩,
    ⟨(some 11), .load 1 false (.t 10), none⟩,
    ⟨(some 12), .call 218 [(.t 11)], none⟩,
    ⟨none, .store 4 (.t 2) (.t 12), none⟩] none)
  (.ret))))
  [.cell 2 4 true]
abbrev c_bailiffref08_Value : Nat := 206

/-- bailiff/key.Text -/
def L_key_Text : Fn := Fn.mk
  (.seq (.region [⟨(some 1), .box 2 (.t 0), none⟩,
    ⟨(some 2), .mv (.c (.s (.c (.str ⟨#[]⟩)))), none⟩] none)
  (.seq (.seq (.region [⟨(some 3), .fld 1 (.t 1), none⟩,
    ⟨(some 4), .load 1 false (.t 3), none⟩,
    ⟨(some 5), .bin (.plain .gtr) (.t 4) (.c (.s (.c (.int .i64 0)))), none⟩] none)
  (.cond (.t 5) (.seq (.region [⟨(some 6), .fld 1 (.t 1), none⟩,
    ⟨(some 7), .load 1 false (.t 6), none⟩,
    ⟨(some 8), .bin (.plain .sub) (.t 7) (.c (.s (.c (.int .i64 1)))), none⟩,
    ⟨(some 9), .call 216 [(.t 8)], none⟩,
    ⟨(some 10), .bin (.plain .add) (.c (.s (.c (.str ⟨#[115, 121, 109, 98, 111, 108, 32]⟩)))) (.t 9), none⟩,
    ⟨(some 2), .mv (.t 10), none⟩] none)
  (.ret))
  (.skip)))
  (.seq (.region [⟨(some 11), .fld 0 (.t 1), none⟩,
    ⟨(some 12), .load 1 false (.t 11), none⟩,
    ⟨(some 13), .call 219 [(.t 12)], none⟩,
    ⟨(some 2), .mv (.t 13), none⟩] none)
  (.ret))))
  [.tmp 2]
abbrev c_key_Text : Nat := 207

/-- bailiff/bailiffref08.Text -/
def L_bailiffref08_Text : Fn := Fn.mk
  (.seq (.region [⟨(some 1), .box 2 (.t 0), none⟩,
    ⟨(some 2), .mv (.c (.s (.c (.str ⟨#[]⟩)))), none⟩] none)
  (.seq (.seq (.region [⟨(some 3), .fld 1 (.t 1), none⟩,
    ⟨(some 4), .load 1 false (.t 3), none⟩,
    ⟨(some 5), .bin (.plain .gtr) (.t 4) (.c (.s (.c (.int .i64 0)))), none⟩] none)
  (.cond (.t 5) (.seq (.region [⟨(some 6), .fld 1 (.t 1), none⟩,
    ⟨(some 7), .load 1 false (.t 6), none⟩,
    ⟨(some 8), .bin (.plain .sub) (.t 7) (.c (.s (.c (.int .i64 1)))), none⟩,
    ⟨(some 9), .call 51 [(.t 8)], none⟩,
    ⟨(some 10), .bin (.plain .add) (.c (.s (.c (.str ⟨#[115, 121, 109, 98, 111, 108, 32]⟩)))) (.t 9), none⟩,
    ⟨(some 2), .mv (.t 10), none⟩] none)
  (.ret))
  (.skip)))
  (.seq (.region [⟨(some 11), .fld 0 (.t 1), none⟩,
    ⟨(some 12), .load 1 false (.t 11), none⟩,
    ⟨(some 13), .call 220 [(.t 12)], none⟩,
    ⟨(some 2), .mv (.t 13), none⟩] none)
  (.ret))))
  [.tmp 2]
abbrev c_bailiffref08_Text : Nat := 208

/-- bailiff/bailifflaw08.alive -/
def L_bailifflaw08_alive : Fn := Fn.mk
  (.seq (.region [⟨(some 0), .mv (.c (.s (.c (.bool false)))), none⟩] none)
  (.seq (.region [⟨(some 4), .call 30 [(.c (.s (.c (.str ⟨#[97]⟩))))], none⟩,
    ⟨(some 5), .call 30 [(.c (.s (.c (.str ⟨#[51]⟩))))], none⟩,
    ⟨(some 6), .mkSl zKey 2 [(0, (.t 4)), (1, (.t 5))], none⟩,
    ⟨(some 7), .call 10 [(.t 6)], none⟩,
    ⟨(some 1), .mv (.t 7), none⟩] none)
  (.seq (.region [⟨(some 9), .call 30 [(.c (.s (.c (.str ⟨#[51]⟩))))], none⟩,
    ⟨(some 10), .call 49 [(.t 9)], none⟩,
    ⟨(some 8), .mv (.t 10), none⟩,
    ⟨(some 11), .extract (.t 8) 0, none⟩,
    ⟨(some 12), .extract (.t 8) 1, none⟩,
    ⟨(some 2), .mv (.t 11), none⟩,
    ⟨(some 3), .mv (.t 12), none⟩] none)
  (.seq (.region [⟨(some 13), .mv (.t 1), none⟩,
    ⟨(some 14), .len false (.t 13), none⟩,
    ⟨(some 15), .bin (.plain .eql) (.t 14) (.c (.s (.c (.int .i64 2)))), none⟩,
    ⟨(some 16), .mv (.t 15), none⟩,
    ⟨(some 17), .mv (.t 1), (some (16, true))⟩,
    ⟨(some 18), .idxA 2 (.t 17) (.c (.s (.c (.int .i64 0)))), (some (16, true))⟩,
    ⟨(some 19), .load 2 true (.t 18), (some (16, true))⟩,
    ⟨(some 20), .call 30 [(.c (.s (.c (.str ⟨#[51]⟩))))], (some (16, true))⟩,
    ⟨(some 21), .bin (.eqs [.str, .int .i64]) (.t 19) (.t 20), (some (16, true))⟩,
    ⟨(some 22), .pick (.t 16) (.t 21) (.c (.s (.c (.bool false)))), none⟩,
    ⟨(some 23), .mv (.t 22), none⟩,
    ⟨(some 24), .mv (.t 3), (some (23, true))⟩,
    ⟨(some 25), .pick (.t 23) (.t 24) (.c (.s (.c (.bool false)))), none⟩,
    ⟨(some 26), .mv (.t 25), none⟩,
    ⟨(some 27), .mv (.t 2), (some (26, true))⟩,
    ⟨(some 28), .bin (.plain .eql) (.t 27) (.c (.s (.c (.int .i64 3)))), (some (26, true))⟩,
    ⟨(some 29), .pick (.t 26) (.t 28) (.c (.s (.c (.bool false)))), none⟩,
    ⟨(some 30), .mv (.t 29), none⟩,
    ⟨(some 31), .call 27 [(.c (.s (.c (.int .i64 1))))], (some (30, true))⟩,
    ⟨(some 32), .call 207 [(.t 31)], (some (30, true))⟩,
    ⟨(some 33), .bin (.plain .eql) (.t 32) (.c (.s (.c (.str ⟨#[115, 121, 109, 98, 111, 108, 32, 49]⟩)))), (some (30, true))⟩,
    ⟨(some 34), .pick (.t 30) (.t 33) (.c (.s (.c (.bool false)))), none⟩,
    ⟨(some 0), .mv (.t 34), none⟩] (some (23, [])))
  (.ret)))))
  [.tmp 0]
abbrev c_bailifflaw08_alive : Nat := 209

/-- bailiff/bailifflaw08.times -/
def L_bailifflaw08_times : Fn := Fn.mk
  (.seq (.region [⟨(some 3), .box 2 (.t 1), none⟩,
    ⟨(some 4), .mv (.c (.s (.c (.int .i64 0)))), none⟩] none)
  (.seq (.region [⟨(some 5), .mv (.c (.s (.c (.int .i64 0)))), none⟩] none)
  (.seq (.seq (.region [⟨(some 6), .mv (.c (.s (.c (.int .i64 0)))), none⟩] none)
  (.block 0 (.loop (.seq (.seq (.region [⟨(some 7), .mv (.t 6), none⟩,
    ⟨(some 8), .mv (.t 0), none⟩,
    ⟨(some 9), .len false (.t 8), none⟩,
    ⟨(some 10), .bin (.plain .lss) (.t 7) (.t 9), none⟩] none)
  (.cond (.t 10) (.skip)
  (.exit 0)))
  (.seq (.block 1 (.seq (.region [⟨(some 13), .mv (.t 0), none⟩,
    ⟨(some 14), .mv (.t 6), none⟩,
    ⟨(some 15), .idxA 2 (.t 13) (.t 14), none⟩,
    ⟨(some 16), .load 2 true (.t 15), none⟩,
    ⟨(some 17), .load 2 true (.t 3), none⟩,
    ⟨(some 18), .bin (.eqs [.str, .int .i64]) (.t 16) (.t 17), none⟩] (some (6, [])))
  (.cond (.t 18) (.region [⟨(some 19), .mv (.t 5), none⟩,
    ⟨(some 20), .bin (.plain .add) (.t 19) (.c (.s (.c (.int .i64 1)))), none⟩,
    ⟨(some 5), .mv (.t 20), none⟩] none)
  (.skip))))
  (.region [⟨(some 11), .mv (.t 6), none⟩,
    ⟨(some 12), .bin (.plain .add) (.t 11) (.c (.s (.c (.int .i64 1)))), none⟩,
    ⟨(some 6), .mv (.t 12), none⟩] none))))))
  (.seq (.region [⟨(some 21), .mv (.t 5), none⟩,
    ⟨(some 4), .mv (.t 21), none⟩] none)
  (.ret)))))
  [.tmp 4]
abbrev c_bailifflaw08_times : Nat := 210

/-- bailiff/bailifflaw08.third -/
def L_bailifflaw08_third : Fn := Fn.mk
  (.seq (.region [⟨(some 1), .box 2 (.t 0), none⟩,
    ⟨(some 2), .mv (.c (.s (.c (.int .i64 0)))), none⟩] none)
  (.seq (.region [⟨(some 6), .load 2 true (.t 1), none⟩,
    ⟨(some 7), .call 49 [(.t 6)], none⟩,
    ⟨(some 5), .mv (.t 7), none⟩,
    ⟨(some 8), .extract (.t 5) 0, none⟩,
    ⟨(some 9), .extract (.t 5) 1, none⟩,
    ⟨(some 3), .mv (.t 8), none⟩,
    ⟨(some 4), .mv (.t 9), none⟩] none)
  (.seq (.seq (.region [⟨(some 10), .mv (.t 4), none⟩] none)
  (.cond (.t 10) (.seq (.region [⟨(some 2), .mv (.c (.s (.c (.int .i64 0)))), none⟩] none)
  (.ret))
  (.skip)))
  (.seq (.seq (.region [⟨(some 11), .fld 1 (.t 1), none⟩,
    ⟨(some 12), .load 1 false (.t 11), none⟩,
    ⟨(some 13), .bin (.plain .gtr) (.t 12) (.c (.s (.c (.int .i64 0)))), none⟩] none)
  (.cond (.t 13) (.seq (.region [⟨(some 2), .mv (.c (.s (.c (.int .i64 2)))), none⟩] none)
  (.ret))
  (.skip)))
  (.seq (.region [⟨(some 2), .mv (.c (.s (.c (.int .i64 1)))), none⟩] none)
  (.ret))))))
  [.tmp 2]
abbrev c_bailifflaw08_third : Nat := 211

/-- bailiff/num.Text -/
def L_num_Text : Fn := Fn.mk
  (.seq (.region [⟨(some 2), .mv (.c (.s (.c (.str ⟨#[]⟩)))), none⟩] none)
  (.seq (.block 0 (.seq (.region [⟨(some 4), .mv (.t 0), none⟩,
    ⟨(some 5), .mv (.t 0), none⟩,
    ⟨(some 6), .bin (.plain .neq) (.t 4) (.t 5), none⟩,
    ⟨(some 3), .mv (.t 6), none⟩] none)
  (.cond (.t 3) (.seq (.region [⟨(some 2), .mv (.c (.s (.c (.str ⟨#[78, 97, 78]⟩)))), none⟩] none)
  (.ret))
  (.seq (.region [⟨(some 8), .mv (.t 0), none⟩,
    ⟨(some 9), .call 73 [(.t 8)], none⟩,
    ⟨(some 10), .un .not (.t 9), none⟩,
    ⟨(some 7), .mv (.t 10), none⟩] none)
  (.cond (.t 7) (.seq (.region [⟨(some 2), .mv (.c (.s (.c (.str ⟨#[]⟩)))), none⟩] none)
  (.ret))
  (.skip))))))
  (.seq (.region [⟨(some 11), .mv (.t 0), none⟩,
    ⟨(some 12), .conv (.toInt .i64) (.t 11), none⟩,
    ⟨(some 13), .call 221 [(.t 12), (.c (.s (.c (.int .i64 10))))], none⟩,
    ⟨(some 2), .mv (.t 13), none⟩] none)
  (.ret))))
  [.tmp 2]
abbrev c_num_Text : Nat := 212

/-- bailiff/value.Text -/
def L_value_Text : Fn := Fn.mk
  (.seq (.region [⟨(some 1), .box 4 (.t 0), none⟩,
    ⟨(some 2), .mv (.c (.s (.c (.str ⟨#[]⟩)))), none⟩] none)
  (.seq (.seq (.region [⟨(some 3), .fld 0 (.t 1), none⟩,
    ⟨(some 4), .load 1 false (.t 3), none⟩] none)
  (.block 0 (.seq (.region [⟨(some 6), .bin (.plain .eql) (.t 4) (.c (.s (.c (.int .u8 0)))), none⟩,
    ⟨(some 5), .mv (.t 6), none⟩] none)
  (.cond (.t 5) (.seq (.region [⟨(some 2), .mv (.c (.s (.c (.str ⟨#[117, 110, 100, 101, 102, 105, 110, 101, 100]⟩)))), none⟩] none)
  (.ret))
  (.seq (.region [⟨(some 8), .bin (.plain .eql) (.t 4) (.c (.s (.c (.int .u8 1)))), none⟩,
    ⟨(some 7), .mv (.t 8), none⟩] none)
  (.cond (.t 7) (.seq (.region [⟨(some 2), .mv (.c (.s (.c (.str ⟨#[110, 117, 108, 108]⟩)))), none⟩] none)
  (.ret))
  (.seq (.region [⟨(some 10), .bin (.plain .eql) (.t 4) (.c (.s (.c (.int .u8 2)))), none⟩,
    ⟨(some 9), .mv (.t 10), none⟩] none)
  (.cond (.t 9) (.seq (.seq (.region [⟨(some 11), .fld 1 (.t 1), none⟩,
    ⟨(some 12), .load 1 false (.t 11), none⟩,
    ⟨(some 13), .bin (.plain .eql) (.t 12) (.c (.s (.c (.flt 0)))), none⟩] none)
  (.cond (.t 13) (.seq (.region [⟨(some 2), .mv (.c (.s (.c (.str ⟨#[102, 97, 108, 115, 101]⟩)))), none⟩] none)
  (.ret))
  (.skip)))
  (.seq (.region [⟨(some 2), .mv (.c (.s (.c (.str ⟨#[116, 114, 117, 101]⟩)))), none⟩] none)
  (.ret)))
  (.seq (.region [⟨(some 15), .bin (.plain .eql) (.t 4) (.c (.s (.c (.int .u8 3)))), none⟩,
    ⟨(some 14), .mv (.t 15), none⟩] none)
  (.cond (.t 14) (.seq (.region [⟨(some 16), .fld 1 (.t 1), none⟩,
    ⟨(some 17), .load 1 false (.t 16), none⟩,
    ⟨(some 18), .call 212 [(.t 17)], none⟩,
    ⟨(some 2), .mv (.t 18), none⟩] none)
  (.ret))
  (.seq (.region [⟨(some 20), .bin (.plain .eql) (.t 4) (.c (.s (.c (.int .u8 4)))), none⟩,
    ⟨(some 19), .mv (.t 20), none⟩] none)
  (.cond (.t 19) (.seq (.region [⟨(some 21), .fld 2 (.t 1), none⟩,
    ⟨(some 22), .load 1 false (.t 21), none⟩,
    ⟨(some 23), .call 219 [(.t 22)], none⟩,
    ⟨(some 2), .mv (.t 23), none⟩] none)
  (.ret))
  (.seq (.region [⟨(some 25), .bin (.plain .eql) (.t 4) (.c (.s (.c (.int .u8 5)))), none⟩,
    ⟨(some 24), .mv (.t 25), none⟩] none)
  (.cond (.t 24) (.seq (.region [⟨(some 26), .fld 3 (.t 1), none⟩,
    ⟨(some 27), .load 1 false (.t 26), none⟩,
    ⟨(some 28), .call 216 [(.t 27)], none⟩,
    ⟨(some 29), .bin (.plain .add) (.c (.s (.c (.str ⟨#[115, 121, 109, 98, 111, 108, 32]⟩)))) (.t 28), none⟩,
    ⟨(some 2), .mv (.t 29), none⟩] none)
  (.ret))
  (.seq (.seq (.region [⟨(some 31), .bin (.plain .eql) (.t 4) (.c (.s (.c (.int .u8 6)))), none⟩,
    ⟨(some 30), .mv (.t 31), none⟩] none)
  (.cond (.t 30) (.skip)
  (.seq (.region [⟨(some 32), .bin (.plain .eql) (.t 4) (.c (.s (.c (.int .u8 7)))), none⟩,
    ⟨(some 30), .mv (.t 32), none⟩] none)
  (.cond (.t 30) (.skip)
  (.region [⟨(some 33), .bin (.plain .eql) (.t 4) (.c (.s (.c (.int .u8 8)))), none⟩,
    ⟨(some 30), .mv (.t 33), none⟩] none)))))
  (.cond (.t 30) (.seq (.region [⟨(some 34), .fld 3 (.t 1), none⟩,
    ⟨(some 35), .load 1 false (.t 34), none⟩,
    ⟨(some 36), .call 216 [(.t 35)], none⟩,
    ⟨(some 37), .bin (.plain .add) (.c (.s (.c (.str ⟨#[111, 98, 106, 101, 99, 116, 32]⟩)))) (.t 36), none⟩,
    ⟨(some 2), .mv (.t 37), none⟩] none)
  (.ret))
  (.skip)))))))))))))))))
  (.seq (.region [⟨(some 2), .mv (.c (.s (.c (.str ⟨#[]⟩)))), none⟩] none)
  (.ret))))
  [.tmp 2]
abbrev c_value_Text : Nat := 213

/-- bailiff/bailiffref07.IsObject -/
def L_bailiffref07_IsObject : Fn := Fn.mk
  (.seq (.region [⟨(some 1), .box 4 (.t 0), none⟩,
    ⟨(some 2), .mv (.c (.s (.c (.bool false)))), none⟩] none)
  (.seq (.region [⟨(some 3), .fld 0 (.t 1), none⟩,
    ⟨(some 4), .load 1 false (.t 3), none⟩,
    ⟨(some 5), .bin (.plain .eql) (.t 4) (.c (.s (.c (.int .u8 6)))), none⟩,
    ⟨(some 6), .mv (.t 5), none⟩,
    ⟨(some 7), .fld 0 (.t 1), (some (6, false))⟩,
    ⟨(some 8), .load 1 false (.t 7), (some (6, false))⟩,
    ⟨(some 9), .bin (.plain .eql) (.t 8) (.c (.s (.c (.int .u8 7)))), (some (6, false))⟩,
    ⟨(some 10), .pick (.t 6) (.c (.s (.c (.bool true)))) (.t 9), none⟩,
    ⟨(some 11), .mv (.t 10), none⟩,
    ⟨(some 12), .fld 0 (.t 1), (some (11, false))⟩,
    ⟨(some 13), .load 1 false (.t 12), (some (11, false))⟩,
    ⟨(some 14), .bin (.plain .eql) (.t 13) (.c (.s (.c (.int .u8 8)))), (some (11, false))⟩,
    ⟨(some 15), .pick (.t 11) (.c (.s (.c (.bool true)))) (.t 14), none⟩,
    ⟨(some 2), .mv (.t 15), none⟩] none)
  (.ret)))
  [.tmp 2]
abbrev c_bailiffref07_IsObject : Nat := 115

/-- bailiff/bailiffref01.Text -/
def L_bailiffref01_Text : Fn := Fn.mk
  (.seq (.region [⟨(some 2), .mv (.c (.s (.c (.str ⟨#[]⟩)))), none⟩] none)
  (.seq (.seq (.region [⟨(some 5), .mv (.t 0), none⟩,
    ⟨(some 6), .mv (.t 0), none⟩,
    ⟨(some 7), .bin (.plain .neq) (.t 5) (.t 6), none⟩] none)
  (.cond (.t 7) (.seq (.region [⟨(some 2), .mv (.c (.s (.c (.str ⟨#[78, 97, 78]⟩)))), none⟩] none)
  (.ret))
  (.skip)))
  (.seq (.region [⟨(some 9), .mv (.t 0), none⟩,
    ⟨(some 10), .call 75 [(.t 9)], none⟩,
    ⟨(some 8), .mv (.t 10), none⟩,
    ⟨(some 11), .extract (.t 8) 0, none⟩,
    ⟨(some 12), .extract (.t 8) 1, none⟩,
    ⟨(some 3), .mv (.t 11), none⟩,
    ⟨(some 4), .mv (.t 12), none⟩] none)
  (.seq (.seq (.region [⟨(some 13), .mv (.t 4), none⟩,
    ⟨(some 14), .un .not (.t 13), none⟩] none)
  (.cond (.t 14) (.seq (.region [⟨(some 2), .mv (.c (.s (.c (.str ⟨#[]⟩)))), none⟩] none)
  (.ret))
  (.skip)))
  (.seq (.region [⟨(some 15), .mv (.t 3), none⟩,
    ⟨(some 16), .call 63 [(.t 15)], none⟩,
    ⟨(some 2), .mv (.t 16), none⟩] none)
  (.ret))))))
  [.tmp 2]
abbrev c_bailiffref01_Text : Nat := 214

/-- bailiff/bailiffref07.Text -/
def L_bailiffref07_Text : Fn := Fn.mk
  (.seq (.region [⟨(some 1), .box 4 (.t 0), none⟩,
    ⟨(some 2), .mv (.c (.s (.c (.str ⟨#[]⟩)))), none⟩] none)
  (.seq (.seq (.region [⟨(some 3), .fld 0 (.t 1), none⟩,
    ⟨(some 4), .load 1 false (.t 3), none⟩] none)
  (.block 0 (.seq (.region [⟨(some 6), .bin (.plain .eql) (.t 4) (.c (.s (.c (.int .u8 0)))), none⟩,
    ⟨(some 5), .mv (.t 6), none⟩] none)
  (.cond (.t 5) (.seq (.region [⟨(some 2), .mv (.c (.s (.c (.str ⟨#[117, 110, 100, 101, 102, 105, 110, 101, 100]⟩)))), none⟩] none)
  (.ret))
  (.seq (.region [⟨(some 8), .bin (.plain .eql) (.t 4) (.c (.s (.c (.int .u8 1)))), none⟩,
    ⟨(some 7), .mv (.t 8), none⟩] none)
  (.cond (.t 7) (.seq (.region [⟨(some 2), .mv (.c (.s (.c (.str ⟨#[110, 117, 108, 108]⟩)))), none⟩] none)
  (.ret))
  (.seq (.region [⟨(some 10), .bin (.plain .eql) (.t 4) (.c (.s (.c (.int .u8 2)))), none⟩,
    ⟨(some 9), .mv (.t 10), none⟩] none)
  (.cond (.t 9) (.seq (.seq (.region [⟨(some 11), .fld 1 (.t 1), none⟩,
    ⟨(some 12), .load 1 false (.t 11), none⟩,
    ⟨(some 13), .bin (.plain .eql) (.t 12) (.c (.s (.c (.flt 0)))), none⟩] none)
  (.cond (.t 13) (.seq (.region [⟨(some 2), .mv (.c (.s (.c (.str ⟨#[102, 97, 108, 115, 101]⟩)))), none⟩] none)
  (.ret))
  (.skip)))
  (.seq (.region [⟨(some 2), .mv (.c (.s (.c (.str ⟨#[116, 114, 117, 101]⟩)))), none⟩] none)
  (.ret)))
  (.seq (.region [⟨(some 15), .bin (.plain .eql) (.t 4) (.c (.s (.c (.int .u8 3)))), none⟩,
    ⟨(some 14), .mv (.t 15), none⟩] none)
  (.cond (.t 14) (.seq (.region [⟨(some 16), .fld 1 (.t 1), none⟩,
    ⟨(some 17), .load 1 false (.t 16), none⟩,
    ⟨(some 18), .call 214 [(.t 17)], none⟩,
    ⟨(some 2), .mv (.t 18), none⟩] none)
  (.ret))
  (.seq (.region [⟨(some 20), .bin (.plain .eql) (.t 4) (.c (.s (.c (.int .u8 4)))), none⟩,
    ⟨(some 19), .mv (.t 20), none⟩] none)
  (.cond (.t 19) (.seq (.region [⟨(some 21), .fld 2 (.t 1), none⟩,
    ⟨(some 22), .load 1 false (.t 21), none⟩,
    ⟨(some 23), .call 220 [(.t 22)], none⟩,
    ⟨(some 2), .mv (.t 23), none⟩] none)
  (.ret))
  (.seq (.region [⟨(some 25), .bin (.plain .eql) (.t 4) (.c (.s (.c (.int .u8 5)))), none⟩,
    ⟨(some 24), .mv (.t 25), none⟩] none)
  (.cond (.t 24) (.seq (.region [⟨(some 26), .fld 3 (.t 1), none⟩,
    ⟨(some 27), .load 1 false (.t 26), none⟩,
    ⟨(some 28), .call 51 [(.t 27)], none⟩,
    ⟨(some 29), .bin (.plain .add) (.c (.s (.c (.str ⟨#[115, 121, 109, 98, 111, 108, 32]⟩)))) (.t 28), none⟩,
    ⟨(some 2), .mv (.t 29), none⟩] none)
  (.ret))
  (.skip)))))))))))))))
  (.seq (.seq (.region [⟨(some 30), .load 4 true (.t 1), none⟩,
    ⟨(some 31), .call 115 [(.t 30)], none⟩] none)
  (.cond (.t 31) (.seq (.region [⟨(some 32), .fld 3 (.t 1), none⟩,
    ⟨(some 33), .load 1 false (.t 32), none⟩,
    ⟨(some 34), .call 51 [(.t 33)], none⟩,
    ⟨(some 35), .bin (.plain .add) (.c (.s (.c (.str ⟨#[111, 98, 106, 101, 99, 116, 32]⟩)))) (.t 34), none⟩,
    ⟨(some 2), .mv (.t 35), none⟩] none)
  (.ret))
  (.skip)))
  (.seq (.region [⟨(some 2), .mv (.c (.s (.c (.str ⟨#[]⟩)))), none⟩] none)
  (.ret)))))
  [.tmp 2]
abbrev c_bailiffref07_Text : Nat := 215

/-- strconv.Itoa -/
def L_strconv_Itoa : Fn := Fn.mk
  (.seq (.region [⟨(some 2), .mv (.c (.s (.c (.str ⟨#[]⟩)))), none⟩] none)
  (.seq (.region [⟨(some 3), .mv (.t 0), none⟩,
    ⟨(some 4), .call 222 [(.t 3)], none⟩,
    ⟨(some 2), .mv (.t 4), none⟩] none)
  (.ret)))
  [.tmp 2]
abbrev c_strconv_Itoa : Nat := 216

/-- bailiff/value.Str -/
def L_value_Str : Fn := Fn.mk
  (.seq (.region [⟨(some 2), .alloc zVal, none⟩] none)
  (.seq (.region [⟨(some 3), .mv (.t 0), none⟩,
    ⟨(some 4), .build zVal [(0, 1, (.c (.s (.c (.int .u8 4))))), (2, 1, (.t 3))], none⟩,
    ⟨none, .store 4 (.t 2) (.t 4), none⟩] none)
  (.ret)))
  [.cell 2 4 true]
abbrev c_value_Str : Nat := 217

/-- bailiff/bailiffref07.Str -/
def L_bailiffref07_Str : Fn := Fn.mk
  (.seq (.region [⟨(some 2), .alloc zVal, none⟩] none)
  (.seq (.region [⟨(some 3), .mv (.t 0), none⟩,
    ⟨(some 4), .build zVal [(0, 1, (.c (.s (.c (.int .u8 4))))), (2, 1, (.t 3))], none⟩,
    ⟨none, .store 4 (.t 2) (.t 4), none⟩] none)
  (.ret)))
  [.cell 2 4 true]
abbrev c_bailiffref07_Str : Nat := 218

/-- bailiff/bailiffref02.Quote -/
def L_bailiffref02_Quote : Fn := Fn.mk
  (.seq (.region [⟨(some 2), .mv (.c (.s (.c (.str ⟨#[]⟩)))), none⟩] none)
  (.seq (.region [⟨(some 3), .mv (.c (.s (.c (.str ⟨#[34]⟩)))), none⟩] none)
  (.seq (.seq (.region [⟨(some 4), .mv (.c (.s (.c (.int .i64 0)))), none⟩] none)
  (.block 0 (.loop (.seq (.seq (.region [⟨(some 6), .mv (.t 4), none⟩,
    ⟨(some 7), .mv (.t 0), none⟩,
    ⟨(some 8), .len true (.t 7), none⟩,
    ⟨(some 9), .bin (.plain .lss) (.t 6) (.t 8), none⟩] none)
  (.cond (.t 9) (.skip)
  (.exit 0)))
  (.seq (.block 1 (.seq (.region [⟨(some 12), .mv (.t 0), none⟩,
    ⟨(some 13), .mv (.t 4), none⟩,
    ⟨(some 14), .idxS (.t 12) (.t 13), none⟩,
    ⟨(some 5), .mv (.t 14), none⟩] none)
  (.block 2 (.seq (.region [⟨(some 23), .mv (.t 5), none⟩,
    ⟨(some 24), .bin (.plain .eql) (.t 23) (.c (.s (.c (.int .u8 34)))), none⟩,
    ⟨(some 25), .mv (.t 24), none⟩,
    ⟨(some 26), .mv (.t 5), (some (25, false))⟩,
    ⟨(some 27), .bin (.plain .eql) (.t 26) (.c (.s (.c (.int .u8 92)))), (some (25, false))⟩,
    ⟨(some 28), .pick (.t 25) (.c (.s (.c (.bool true)))) (.t 27), none⟩,
    ⟨(some 22), .mv (.t 28), none⟩] none)
  (.cond (.t 22) (.region [⟨(some 29), .mv (.t 3), none⟩,
    ⟨(some 30), .bin (.plain .add) (.t 29) (.c (.s (.c (.str ⟨#[92]⟩)))), none⟩,
    ⟨(some 31), .mv (.t 0), none⟩,
    ⟨(some 32), .mv (.t 4), none⟩,
    ⟨(some 33), .mv (.t 4), none⟩,
    ⟨(some 34), .bin (.plain .add) (.t 33) (.c (.s (.c (.int .i64 1)))), none⟩,
    ⟨(some 35), .sliceS (.t 31) (some (.t 32)) (some (.t 34)), none⟩,
    ⟨(some 36), .bin (.plain .add) (.t 30) (.t 35), none⟩,
    ⟨(some 3), .mv (.t 36), none⟩] none)
  (.seq (.region [⟨(some 38), .mv (.t 5), none⟩,
    ⟨(some 39), .bin (.plain .eql) (.t 38) (.c (.s (.c (.int .u8 10)))), none⟩,
    ⟨(some 37), .mv (.t 39), none⟩] none)
  (.cond (.t 37) (.region [⟨(some 40), .mv (.t 3), none⟩,
    ⟨(some 41), .bin (.plain .add) (.t 40) (.c (.s (.c (.str ⟨#[92, 110]⟩)))), none⟩,
    ⟨(some 3), .mv (.t 41), none⟩] none)
  (.seq (.region [⟨(some 43), .mv (.t 5), none⟩,
    ⟨(some 44), .bin (.plain .eql) (.t 43) (.c (.s (.c (.int .u8 9)))), none⟩,
    ⟨(some 42), .mv (.t 44), none⟩] none)
  (.cond (.t 42) (.region [⟨(some 45), .mv (.t 3), none⟩,
    ⟨(some 46), .bin (.plain .add) (.t 45) (.c (.s (.c (.str ⟨#[92, 116]⟩)))), none⟩,
    ⟨(some 3), .mv (.t 46), none⟩] none)
  (.seq (.region [⟨(some 48), .mv (.t 5), none⟩,
    ⟨(some 49), .bin (.plain .eql) (.t 48) (.c (.s (.c (.int .u8 13)))), none⟩,
    ⟨(some 47), .mv (.t 49), none⟩] none)
  (.cond (.t 47) (.region [⟨(some 50), .mv (.t 3), none⟩,
    ⟨(some 51), .bin (.plain .add) (.t 50) (.c (.s (.c (.str ⟨#[92, 114]⟩)))), none⟩,
    ⟨(some 3), .mv (.t 51), none⟩] none)
  (.seq (.region [⟨(some 53), .mv (.t 5), none⟩,
    ⟨(some 54), .bin (.plain .lss) (.t 53) (.c (.s (.c (.int .u8 32)))), none⟩,
    ⟨(some 55), .mv (.t 54), none⟩,
    ⟨(some 56), .mv (.t 5), (some (55, false))⟩,
    ⟨(some 57), .bin (.plain .gtr) (.t 56) (.c (.s (.c (.int .u8 126)))), (some (55, false))⟩,
    ⟨(some 58), .pick (.t 55) (.c (.s (.c (.bool true)))) (.t 57), none⟩,
    ⟨(some 52), .mv (.t 58), none⟩] none)
  (.cond (.t 52) (.region [⟨(some 59), .mv (.t 3), none⟩,
    ⟨(some 60), .bin (.plain .add) (.t 59) (.c (.s (.c (.str ⟨#[92, 120]⟩)))), none⟩,
    ⟨(some 61), .mv (.t 5), none⟩,
    ⟨(some 62), .bin (.plain .quo) (.t 61) (.c (.s (.c (.int .u8 16)))), none⟩,
    ⟨(some 63), .call 227 [(.t 62)], none⟩,
    ⟨(some 64), .bin (.plain .add) (.t 60) (.t 63), none⟩,
    ⟨(some 65), .mv (.t 5), none⟩,
    ⟨(some 66), .bin (.plain .rem) (.t 65) (.c (.s (.c (.int .u8 16)))), none⟩,
    ⟨(some 67), .call 227 [(.t 66)], none⟩,
    ⟨(some 68), .bin (.plain .add) (.t 64) (.t 67), none⟩,
    ⟨(some 3), .mv (.t 68), none⟩] none)
  (.region [⟨(some 15), .mv (.t 3), none⟩,
    ⟨(some 16), .mv (.t 0), none⟩,
    ⟨(some 17), .mv (.t 4), none⟩,
    ⟨(some 18), .mv (.t 4), none⟩,
    ⟨(some 19), .bin (.plain .add) (.t 18) (.c (.s (.c (.int .i64 1)))), none⟩,
    ⟨(some 20), .sliceS (.t 16) (some (.t 17)) (some (.t 19)), none⟩,
    ⟨(some 21), .bin (.plain .add) (.t 15) (.t 20), none⟩,
    ⟨(some 3), .mv (.t 21), none⟩] none))))))))))))))
  (.region [⟨(some 10), .mv (.t 4), none⟩,
    ⟨(some 11), .bin (.plain .add) (.t 10) (.c (.s (.c (.int .i64 1)))), none⟩,
    ⟨(some 4), .mv (.t 11), none⟩] none))))))
  (.seq (.region [⟨(some 69), .mv (.t 3), none⟩,
    ⟨(some 70), .bin (.plain .add) (.t 69) (.c (.s (.c (.str ⟨#[34]⟩)))), none⟩,
    ⟨(some 2), .mv (.t 70), none⟩] none)
  (.ret)))))
  [.tmp 2]
abbrev c_bailiffref02_Quote : Nat := 220

/-- strconv.FormatInt -/
def L_strconv_FormatInt : Fn := Fn.mk
  (.seq (.region [⟨(some 4), .mv (.c (.s (.c (.str ⟨#[]⟩)))), none⟩] none)
  (.seq (.region [⟨(some 5), .mv (.t 0), none⟩,
    ⟨(some 6), .mv (.t 1), none⟩,
    ⟨(some 7), .call 228 [(.t 5), (.t 6)], none⟩,
    ⟨(some 4), .mv (.t 7), none⟩] none)
  (.ret)))
  [.tmp 4]
abbrev c_strconv_FormatInt : Nat := 221

/-- internal/strconv.Itoa -/
def L_istrconv_Itoa : Fn := Fn.mk
  (.seq (.region [⟨(some 2), .mv (.c (.s (.c (.str ⟨#[]⟩)))), none⟩] none)
  (.seq (.region [⟨(some 3), .mv (.t 0), none⟩,
    ⟨(some 4), .call 228 [(.t 3), (.c (.s (.c (.int .i64 10))))], none⟩,
    ⟨(some 2), .mv (.t 4), none⟩] none)
  (.ret)))
  [.tmp 2]
abbrev c_istrconv_Itoa : Nat := 222

/-- bailiff/bailiffref02.sign -/
def L_bailiffref02_sign : Fn := Fn.mk
  (.seq (.region [⟨(some 2), .mv (.c (.s (.c (.str ⟨#[]⟩)))), none⟩] none)
  (.seq (.region [⟨(some 3), .mv (.t 0), none⟩,
    ⟨(some 4), .mv (.t 0), none⟩,
    ⟨(some 5), .bin (.plain .add) (.t 4) (.c (.s (.c (.int .u8 1)))), none⟩,
    ⟨(some 6), .sliceS (.c (.s (.c (.str ⟨#[48, 49, 50, 51, 52, 53, 54, 55, 56, 57, 97, 98, 99, 100, 101, 102]⟩)))) (some (.t 3)) (some (.t 5)), none⟩,
    ⟨(some 2), .mv (.t 6), none⟩] none)
  (.ret)))
  [.tmp 2]
abbrev c_bailiffref02_sign : Nat := 227

def fnsL (T : Nat) : List (Nat × Fn) := [(196, L_gosem_cut_init), (181, L_bailifflaw10_TableTurns), (197, L_bailifflaw08_KeyOrder), (198, L_bailifflaw10_TableAsks), (182, L_bailifflaw10_TableNames), (199, L_bailifflaw10_TableFinds), (1, L_bailifflaw10_long), (2, L_bailifflaw10_twin), (3, L_table_Put), (4, L_bailiffref10_Put), (5, L_table_Drop), (6, L_bailiffref10_Drop), (7, L_bailiffref10_Same), (8, L_bailifflaw10_stays), (9, L_bailifflaw10_spoil), (10, L_key_Order T), (11, L_bailiffref08_Order), (12, L_bailiffref08_Same), (13, L_table_Check), (14, L_bailiffref10_Check), (15, L_table_Find), (16, L_bailiffref10_Find), (17, L_table_Keys), (18, L_bailiffref10_Keys), (19, L_table_Names), (20, L_bailiffref10_Names), (21, L_table_Sealed), (22, L_bailiffref10_Sealed), (23, L_table_Frozen), (24, L_bailiffref10_Frozen), (25, L_bailiffref09_Alike), (26, L_bailifflaw10_prop), (27, L_key_Sym), (29, L_desc_Data), (28, L_value_Num), (30, L_key_Of), (31, L_bailifflaw10_alive), (32, L_key_Check), (33, L_desc_Same), (34, L_table_asked), (35, L_table_at), (36, L_table_whole), (37, L_bailiffref10_asked), (38, L_bailiffref09_IsWhole), (39, L_bailiffref10_Place), (40, L_key_Order_1), (48, L_key_place), (183, L_sort_SliceStable), (41, L_bailiffref08_Index), (42, L_bailiffref08_Check), (43, L_bailiffref09_IsData), (44, L_bailiffref07_Alike), (45, L_value_Same), (46, L_desc_Complete), (47, L_bailiffref09_Check), (49, L_key_Index), (186, L_sort_stable_func), (51, L_bailiffref07_Tens), (52, L_bailiffref09_Has), (53, L_bailiffref01_Same), (54, L_value_Strict), (55, L_desc_Check), (56, L_desc_whole), (57, L_bailiffref09_IsAccess), (58, L_bailiffref09_bare), (59, L_bailiffref07_May), (60, L_bailiffref09_called), (61, L_sort_insertionSort_func), (62, L_sort_symMerge_func), (63, L_bailiffref01_Tens), (64, L_value_IsObject), (65, L_desc_IsData), (66, L_desc_IsAccess), (67, L_value_May), (68, L_desc_called), (69, L_bailiffref07_nought), (70, L_bailiffref01_May), (71, L_bailiffref07_Calls), (72, L_sort_rotate_func), (73, L_num_May), (74, L_value_Calls), (75, L_bailiffref01_whole), (76, L_sort_swapRange_func), (77, L_math_Trunc), (78, L_math_Abs), (79, L_math_Signbit), (81, L_math_trunc), (84, L_math_Copysign), (236, L_bailifflaw08_KeyOnes), (237, L_bailifflaw08_KeyRow), (238, L_bailifflaw08_KeyNames), (239, L_bailifflaw08_KeyBack), (200, L_key_Prim), (201, L_bailiffref08_Prim), (202, L_bailiffref08_Sym), (203, L_key_Number), (204, L_bailiffref08_Number), (205, L_key_Value), (206, L_bailiffref08_Value), (207, L_key_Text), (208, L_bailiffref08_Text), (209, L_bailifflaw08_alive), (210, L_bailifflaw08_times), (211, L_bailifflaw08_third), (212, L_num_Text), (213, L_value_Text), (115, L_bailiffref07_IsObject), (214, L_bailiffref01_Text), (215, L_bailiffref07_Text), (216, L_strconv_Itoa), (217, L_value_Str), (218, L_bailiffref07_Str), (220, L_bailiffref02_Quote), (221, L_strconv_FormatInt), (222, L_istrconv_Itoa), (227, L_bailiffref02_sign)]
end Go.Lx
